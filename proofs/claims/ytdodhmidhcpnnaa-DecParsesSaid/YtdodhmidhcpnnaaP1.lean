/- Several chapters in one text. -/
import Derived.Test.YtdodhmidhcpnnaaP0
import Derived.Test.YtdodhmidhcpnnaaS7
import Derived.Test.YtdodhmidhcpnnaaY2
section
set_option linter.unusedVariables false
set_option linter.unusedSimpArgs false
set_option maxRecDepth 100000
namespace Go.Proofs.Ytdodhmidhcpnnaa
open Go.Abs

/-- the cells of a decimal -/
def dC (n s : Int) : List SV := [.int .i64 (n / 18446744073709551616), .int .u64 (n % 18446744073709551616), .int .i64 s]
@[simp] theorem dC_length (n s : Int) : (dC n s).length = 3 := rfl
@[simp] theorem dC_take (n s : Int) : List.take 3 (dC n s) = dC n s := rfl
@[simp] theorem dC_num (n s : Int) : List.take 2 (dC n s) = wC n := rfl
@[simp] theorem dC_scale (n s : Int) : (dC n s)[2]? = some (.int .i64 s) := rfl
@[simp] theorem dC_scale' (n s : Int) (h : 2 < (dC n s).length) : (dC n s)[2] = .int .i64 s := rfl
theorem dC_hi (n s : Int) : (dC n s)[0]? = some (.int .i64 (n / 18446744073709551616)) := rfl
theorem dC_hi' (n s : Int) (h : 0 < (dC n s).length) : (dC n s)[0] = .int .i64 (n / 18446744073709551616) := rfl
@[simp] theorem dC_pure (n s : Int) : (dC n s).all pureS = true := rfl
@[simp] theorem dC_put (n s m t : Int) : setCells (dC m t) 0 (dC n s) = dC n s := rfl
@[simp] theorem dC_put_num (n m t : Int) : setCells (dC m t) 0 (wC n) = dC n t := rfl
@[simp] theorem dC_put_scale (n s t : Int) : (dC n t).set 2 (.int .i64 s) = dC n s := rfl
theorem zero_dC : [SV.int .i64 0, .int .u64 0, .int .i64 0] = dC 0 0 := rfl
@[simp] theorem dC_eqK (n s : Int) : eqK [.i, .i, .i] (dC n s) (dC n s) = some true := by simp [dC]
abbrev Dc (n s : Int) : AV := .agg (dC n s)

theorem in_dec {H : Type} {k : Nat} {tv : TV} {d : DataW H} {h : Heap} (hi : In1 Try.prog h (k + 3) 26 tv d) : ∃ n s : Int, tv = [Dc n s] ∧ InW n ∧ -9223372036854775808 ≤ s ∧ s < 9223372036854775808 := by
  obtain ⟨xs, hv, rfl⟩ := hi
  obtain ⟨parts2, rfl, hl2, hp2, hf2⟩ := View.fields (L := [(24, 0, 2), (3, 2, 1)]) (n := 3) (by kernel_rfl) (by kernel_rfl) hv
  have ha : Go.Abs.isAgg Try.prog 26 = true := by kernel_rfl
  match xs, hl2, parts2, hp2 with
  | [x2, x3, x4], _, [r0, r1], _ =>
    have f3 : View Try.prog h (k + 1 + 1) 24 [x2, x3] r0 := hf2 0 _ _ rfl rfl
    obtain ⟨s, q5, q6, _⟩ := View.int (by kernel_rfl : Try.prog.underlying 3 = some (.int .i64)) (hf2 1 _ _ rfl rfl)
    obtain ⟨parts3, rfl, hl3, hp3, hf3⟩ := View.fields (L := [(2, 0, 1), (22, 1, 1)]) (n := 2) (by kernel_rfl) (by kernel_rfl) f3
    match parts3, hp3 with
    | [u0, u1], _ =>
      obtain ⟨c, q7, q8, _⟩ := View.int (by kernel_rfl : Try.prog.underlying 2 = some (.int .i64)) (hf3 0 _ _ rfl rfl)
      obtain ⟨e, q9, q10, _⟩ := View.int (by kernel_rfl : Try.prog.underlying 22 = some (.int .u64)) (hf3 1 _ _ rfl rfl)
      simp at q5 q7 q9
      subst q5 q7 q9
      have q8 := wf_i64 q8
      have q10 := wf_u64 q10
      refine ⟨c * 18446744073709551616 + e, s, ?_, by unfold InW; omega, wf_i64 q6⟩
      have e1 : (c * 18446744073709551616 + e) / 18446744073709551616 = c := by omega
      have e2 : (c * 18446744073709551616 + e) % 18446744073709551616 = e := by omega
      rw [ha]
      unfold Dc dC
      rw [e1, e2]
      rfl

/-- is it a scale? -/
def rgt (s : Int) : Bool := decide (0 ≤ s) && decide (s ≤ 18)
theorem rgt_iff {s : Int} : rgt s = true ↔ 0 ≤ s ∧ s ≤ 18 := by simp [rgt]
theorem rgt_not {s : Int} (h : rgt s = false) : ¬ (0 ≤ s ∧ s ≤ 18) := by
  intro c
  rw [rgt_iff.2 c] at h
  contradiction

theorem spec53 (h : Heap) (s : Int) : call 53 [[.sc (.int .i64 s)]] h = some ([.sc (.bool (rgt s))], h) := by
  unfold rgt
  refine callX rfl (by rfl : F 53 = some M.a53) (fun R RO RD RT E => ?_)
  by_cases c1 : 0 ≤ s
  · simp [M.a53, E.eqs, c1]
  · simp [M.a53, E.eqs, c1]
theorem spec29 (h : Heap) (n s : Int) : call 29 [[Dc n s]] h = some ([.sc (.bool (rgt s))], h) := by
  have s1 := fun h => spec53 h s
  refine callX rfl (by rfl : F 29 = some M.a29) (fun R RO RD RT E => ?_)
  simp [M.a29, E.eqs, s1, fldA, freshB, loadA, trim_pure, pureT, pureV, pureS]
theorem spec30 (h : Heap) (n s : Int) : call 30 [[Dc n s]] h = some ([.sc (.bool (rgt s))], h) := by
  unfold rgt
  refine callX rfl (by rfl : F 30 = some M.a30) (fun R RO RD RT E => ?_)
  by_cases c1 : 0 ≤ s
  · simp [M.a30, E.eqs, c1, fldA, freshB, loadA, trim_pure, pureT, pureV, pureS]
  · simp [M.a30, E.eqs, c1, fldA, freshB, loadA, trim_pure, pureT, pureV, pureS]

/-- a scale brought within bounds, or as it is -/
def nearS (b : Bool) (s : Int) : Int := if b then s % 19 else s
theorem nearS_in {b : Bool} {s : Int} (h1 : -9223372036854775808 ≤ s) (h2 : s < 9223372036854775808) : -9223372036854775808 ≤ nearS b s ∧ nearS b s < 9223372036854775808 := by
  unfold nearS
  split <;> omega
theorem spec17 (h : Heap) (n : Int) {s : Int} (b : Bool) (h1 : -9223372036854775808 ≤ s) (h2 : s < 9223372036854775808) : call 17 [[Dc n s], [.sc (.bool b)]] h = some ([Dc n (nearS b s)], h) := by
  have s1 := fun h => spec16 h (n := s) (m := 19) (by omega) (by omega) h1 h2
  refine callX rfl (by rfl : F 17 = some M.a17) (fun R RO RD RT E => ?_)
  unfold nearS
  cases b
  · simp [M.a17, E.eqs, zero_dC, fldA, freshB, loadA, storeA, trim_pure, pureT, pureV, pureS]
  · generalize s % 19 = s' at *
    simp [M.a17, E.eqs, zero_dC, s1, fldA, freshB, loadA, storeA, trim_pure, pureT, pureV, pureS]
theorem spec35 (h : Heap) (n : Int) {s : Int} (b : Bool) (h1 : -9223372036854775808 ≤ s) (h2 : s < 9223372036854775808) : call 35 [[Dc n s], [.sc (.bool b)]] h = some ([Dc n (nearS b s)], h) := by
  have s1 := fun h => spec16 h (n := s) (m := 19) (by omega) (by omega) h1 h2
  refine callX rfl (by rfl : F 35 = some M.a35) (fun R RO RD RT E => ?_)
  unfold nearS
  cases b
  · simp [M.a35, E.eqs, zero_dC, fldA, freshB, loadA, storeA, trim_pure, pureT, pureV, pureS]
  · generalize s % 19 = s' at *
    simp [M.a35, E.eqs, zero_dC, s1, fldA, freshB, loadA, storeA, trim_pure, pureT, pureV, pureS]

theorem pow_in {k : Int} (h0 : 0 ≤ k) (h1 : k ≤ 18) : powC k = 10 ^ k.toNat ∧ powE k = 0 ∧ InW (10 ^ k.toNat) ∧ (0 : Int) < 10 ^ k.toNat := by
  unfold powC powE
  rw [if_pos ⟨h0, by omega⟩, if_pos ⟨h0, by omega⟩]
  exact ⟨rfl, rfl, ten_in (by omega), Int.pow_pos (by omega)⟩

/-- a number at a finer scale, by so many digits -/
def fin (n k : Int) : Int := n * 10 ^ k.toNat

theorem spec55 (h : Heap) {n k : Int} (hn : InW n) (h0 : 0 ≤ k) (h1 : k ≤ 18) : call 55 [[W n], [.sc (.int .i64 k)]] h = some (okW (fin n k), h) := by
  obtain ⟨p1, p2, p3, _⟩ := pow_in h0 h1
  have s1 := fun h => spec38 h k
  rw [p1, p2] at s1
  have s2 := fun h => spec39 h hn p3
  have e : n * 10 ^ k.toNat = fin n k := rfl
  rw [e] at s2
  refine callX rfl (by rfl : F 55 = some M.a55) (fun R RO RD RT E => ?_)
  generalize (10 : Int) ^ k.toNat = p at *
  generalize fin n k = r at *
  simp [M.a55, E.eqs, wC_zero, s1, s2, freshB, loadA, storeA, trim_pure, pureT, pureV, pureS]

theorem fin_big {n k : Int} (hn : InW n) (h0 : 0 ≤ k) (h1 : k ≤ 18) : InB (fin n k) := by
  have := rndI_big (n := n) (k := -k) (Nat.lt_trans hn.natAbs (by decide)) (by omega) (by omega)
  obtain ⟨m, rfl⟩ := Int.eq_ofNat_of_zero_le h0
  rw [rndI_neg] at this
  exact this

theorem spec61 (h : Heap) {n s t : Int} (hn : InW n) (h0 : 0 ≤ s) (h1 : s ≤ t) (h2 : t ≤ 18) : call 61 [[Dc n s], [.sc (.int .i64 t)]] h = some ([.agg (bigC (fin n (t - s)))], h) := by
  have s1 := fun h => spec59 h hn
  have s2 := fun h => spec57 h (n := n) (k := s - t) (Nat.lt_trans hn.natAbs (by decide)) (by omega) (by omega)
  have e : rndI n (s - t) = fin n (t - s) := by
    unfold rndI fin
    rw [if_neg (by omega)]
    congr 2
    omega
  rw [e] at s2
  have w1 : IntKind.i64.wrap (s - t) = s - t := wi64 (by omega) (by omega)
  refine callX rfl (by rfl : F 61 = some M.a61) (fun R RO RD RT E => ?_)
  generalize fin n (t - s) = r at *
  simp [M.a61, E.eqs, zeros_big, s1, s2, w1, fldA, freshB, loadA, storeA, trim_pure, pureT, pureV, pureS]

/-- a number with a scale, or nothing -/
abbrev okD (n s : Int) : TV := [Dc (okC n) (if InW n then s else 0), .sc (.int .i64 (okE n))]
theorem okD_in {n s : Int} (h : InW n) : okD n s = [Dc n s, .sc (.int .i64 0)] := by unfold okD okC okE; rw [if_pos h, if_pos h, if_pos h]
theorem okD_out {n s : Int} (h : ¬ InW n) : okD n s = [Dc 0 0, .sc (.int .i64 20)] := by unfold okD okC okE; rw [if_neg h, if_neg h, if_neg h]

theorem spec56 (h : Heap) {n : Int} (s : Int) (hn : InB n) : call 56 [[.agg (bigC n)], [.sc (.int .i64 s)]] h = some (okD n s, h) := by
  have s1 := fun h => spec62 h hn
  refine callX rfl (by rfl : F 56 = some M.a56) (fun R RO RD RT E => ?_)
  obtain ⟨p, q, s1, hpq⟩ := s1 (h ++ [⟨.var, bigC n⟩, ⟨.var, dC 0 0⟩])
  by_cases c2 : InW n
  · rw [okD_in c2]
    rw [hpq c2] at s1
    simp [M.a56, E.eqs, zero_dC, wC_zero, s1, c2, fldA, freshB, loadA, storeA, trim_pure, pureT, pureV, pureS]
  · rw [okD_out c2]
    simp [M.a56, E.eqs, zero_dC, s1, c2, fldA, freshB, loadA, storeA, trim_pure, pureT, pureV, pureS]
end Go.Proofs.Ytdodhmidhcpnnaa
end

section
set_option linter.unusedVariables false
set_option linter.unusedSimpArgs false
set_option maxRecDepth 100000
namespace Go.Proofs.Ytdodhmidhcpnnaa
open Go.Abs

/-- the greater scale -/
def mxS (s t : Int) : Int := if s < t then t else s
theorem mxS_of (s t : Int) : s ≤ mxS s t ∧ t ≤ mxS s t ∧ (mxS s t = s ∨ mxS s t = t) := by unfold mxS; split <;> omega
/-- what two at the greater scale are, and what is wrong -/
def bothR (sub : Bool) (a s b t : Int) : TV :=
  if rgt s = true ∧ rgt t = true then (if InW (fin a (mxS s t - s)) ∧ InW (fin b (mxS s t - t)) then okD (if sub then fin a (mxS s t - s) - fin b (mxS s t - t) else fin a (mxS s t - s) + fin b (mxS s t - t)) (mxS s t) else [Dc 0 0, .sc (.int .i64 20)])
  else [Dc 0 0, .sc (.int .i64 21)]
theorem bothR_form (sub : Bool) (a s b t : Int) : ∃ n m e : Int, bothR sub a s b t = [Dc n m, .sc (.int .i64 e)] := by
  unfold bothR
  split
  · split
    · exact ⟨_, _, _, rfl⟩
    · exact ⟨0, 0, 20, rfl⟩
  · exact ⟨0, 0, 21, rfl⟩
def negR (a s : Int) : TV := if rgt s = true then okD (-a) s else [Dc 0 0, .sc (.int .i64 21)]
theorem negR_form (a s : Int) : ∃ n m e : Int, negR a s = [Dc n m, .sc (.int .i64 e)] := by
  unfold negR
  split
  · exact ⟨_, _, _, rfl⟩
  · exact ⟨0, 0, 21, rfl⟩
theorem okW_in' {n : Int} (h : InW n) : okW n = [W n, .sc (.int .i64 0)] := by unfold okW okC okE; rw [if_pos h, if_pos h]
theorem okW_out' {n : Int} (h : ¬ InW n) : okW n = [W 0, .sc (.int .i64 20)] := by unfold okW okC okE; rw [if_neg h, if_neg h]

set_option maxHeartbeats 2000000 in
theorem spec60 (h : Heap) (sub : Bool) {a s b t : Int} (ha : InW a) (hb : InW b) : call 60 [[Dc a s], [Dc b t], [.sc (.int .i64 (if sub then 1 else 0))]] h = some (bothR sub a s b t, h) := by
  have r1 := fun h => spec29 h a s
  have r2 := fun h => spec29 h b t
  unfold bothR
  by_cases hs : rgt s = true ∧ rgt t = true
  · rw [if_pos hs]
    obtain ⟨q1, q2⟩ := hs
    obtain ⟨s0, s1⟩ := rgt_iff.1 q1
    obtain ⟨t0, t1⟩ := rgt_iff.1 q2
    obtain ⟨m1, m2, m3⟩ := mxS_of s t
    have mx : (if s < t then t else s) = mxS s t := rfl
    generalize mxS s t = m at *
    have f1 := fun h => spec55 h (n := a) (k := m - s) ha (by omega) (by omega)
    have f2 := fun h => spec55 h (n := b) (k := m - t) hb (by omega) (by omega)
    have w1 : IntKind.i64.wrap (m - s) = m - s := wi64 (by omega) (by omega)
    have w2 : IntKind.i64.wrap (m - t) = m - t := wi64 (by omega) (by omega)
    generalize fin a (m - s) = x at *
    generalize fin b (m - t) = y at *
    rw [q1] at r1
    rw [q2] at r2
    refine callX rfl (by rfl : F 60 = some M.a60) (fun R RO RD RT E => ?_)
    clear s0 s1 t0 t1 m1 m2 m3 ha hb
    by_cases hx : InW x
    · rw [okW_in' hx] at f1
      by_cases hy : InW y
      · rw [okW_in' hy] at f2
        rw [if_pos (show InW x ∧ InW y from ⟨hx, hy⟩)]
        have s3 := fun h => spec41 h hx hy
        have s4 := fun h => spec40 h hx hy
        cases sub
        · by_cases hz : InW (x + y)
          · rw [okW_in' hz] at s3
            simp only [Bool.false_eq_true, if_false]
            rw [okD_in hz]
            generalize x + y = z at *
            simp [M.a60, E.eqs, zero_dC, wC_zero, r1, r2, mx, w1, w2, f1, f2, s3, fldA, freshB, loadA, storeA, nilckA, trim_pure, pureT, pureV, pureS]
          · rw [okW_out' hz] at s3
            simp only [Bool.false_eq_true, if_false]
            rw [okD_out hz]
            generalize x + y = z at *
            simp [M.a60, E.eqs, zero_dC, wC_zero, r1, r2, mx, w1, w2, f1, f2, s3, fldA, freshB, loadA, storeA, nilckA, trim_pure, pureT, pureV, pureS]
        · by_cases hz : InW (x - y)
          · rw [okW_in' hz] at s4
            simp only [if_true]
            rw [okD_in hz]
            generalize x - y = z at *
            simp [M.a60, E.eqs, zero_dC, wC_zero, r1, r2, mx, w1, w2, f1, f2, s4, fldA, freshB, loadA, storeA, nilckA, trim_pure, pureT, pureV, pureS]
          · rw [okW_out' hz] at s4
            simp only [if_true]
            rw [okD_out hz]
            generalize x - y = z at *
            simp [M.a60, E.eqs, zero_dC, wC_zero, r1, r2, mx, w1, w2, f1, f2, s4, fldA, freshB, loadA, storeA, nilckA, trim_pure, pureT, pureV, pureS]
      · rw [okW_out' hy] at f2
        rw [if_neg (show ¬ (InW x ∧ InW y) from fun c => hy c.2)]
        simp [M.a60, E.eqs, zero_dC, wC_zero, r1, r2, mx, w1, w2, f1, f2, fldA, freshB, loadA, storeA, nilckA, trim_pure, pureT, pureV, pureS]
    · rw [okW_out' hx] at f1
      rw [if_neg (show ¬ (InW x ∧ InW y) from fun c => hx c.1)]
      generalize okC y = y' at *
      generalize okE y = y'' at *
      simp [M.a60, E.eqs, zero_dC, wC_zero, r1, r2, mx, w1, w2, f1, f2, fldA, freshB, loadA, storeA, nilckA, trim_pure, pureT, pureV, pureS]
  · rw [if_neg hs]
    refine callX rfl (by rfl : F 60 = some M.a60) (fun R RO RD RT E => ?_)
    by_cases c1 : rgt s = true
    · have c2 : rgt t = false := by
        cases hq : rgt t
        · rfl
        · exact absurd ⟨c1, hq⟩ hs
      rw [c1] at r1
      rw [c2] at r2
      simp [M.a60, E.eqs, zero_dC, r1, r2, fldA, freshB, loadA, storeA, trim_pure, pureT, pureV, pureS]
    · have c1 : rgt s = false := by simpa using c1
      rw [c1] at r1
      simp [M.a60, E.eqs, zero_dC, r1, fldA, freshB, loadA, storeA, trim_pure, pureT, pureV, pureS]

theorem spec23 (h : Heap) {a s b t : Int} (ha : InW a) (hb : InW b) : call 23 [[Dc a s], [Dc b t]] h = some (bothR false a s b t, h) := by
  have s1 := fun h => spec60 h false (s := s) (t := t) ha hb
  simp only [Bool.false_eq_true, if_false] at s1
  obtain ⟨n, m, e, hf⟩ := bothR_form false a s b t
  rw [hf] at s1 ⊢
  refine callX rfl (by rfl : F 23 = some M.a23) (fun R RO RD RT E => ?_)
  simp [M.a23, E.eqs, zero_dC, s1, freshB, loadA, storeA, trim_pure, pureT, pureV, pureS]
theorem spec25 (h : Heap) {a s b t : Int} (ha : InW a) (hb : InW b) : call 25 [[Dc a s], [Dc b t]] h = some (bothR true a s b t, h) := by
  have s1 := fun h => spec60 h true (s := s) (t := t) ha hb
  simp only [if_true] at s1
  obtain ⟨n, m, e, hf⟩ := bothR_form true a s b t
  rw [hf] at s1 ⊢
  refine callX rfl (by rfl : F 25 = some M.a25) (fun R RO RD RT E => ?_)
  simp [M.a25, E.eqs, zero_dC, s1, freshB, loadA, storeA, trim_pure, pureT, pureV, pureS]
theorem spec27 (h : Heap) {a s : Int} (ha : InW a) : call 27 [[Dc a s]] h = some (negR a s, h) := by
  have r1 := fun h => spec29 h a s
  have s1 := fun h => spec43 h ha
  unfold negR
  refine callX rfl (by rfl : F 27 = some M.a27) (fun R RO RD RT E => ?_)
  by_cases c1 : rgt s = true
  · rw [if_pos c1]
    rw [c1] at r1
    by_cases hz : InW (-a)
    · rw [okW_in' hz] at s1
      rw [okD_in hz]
      generalize -a = z at *
      simp [M.a27, E.eqs, zero_dC, wC_zero, r1, s1, fldA, freshB, loadA, storeA, trim_pure, pureT, pureV, pureS]
    · rw [okW_out' hz] at s1
      rw [okD_out hz]
      simp [M.a27, E.eqs, zero_dC, wC_zero, r1, s1, fldA, freshB, loadA, storeA, trim_pure, pureT, pureV, pureS]
  · rw [if_neg c1]
    have c1 : rgt s = false := by simpa using c1
    rw [c1] at r1
    simp [M.a27, E.eqs, zero_dC, r1, fldA, freshB, loadA, storeA, trim_pure, pureT, pureV, pureS]
theorem spec28 (h : Heap) {a s : Int} (ha : InW a) : call 28 [[Dc a s]] h = some (negR a s, h) := by
  have r1 := fun h => spec30 h a s
  have s1 := fun h => spec59 h ha
  have s2 := fun h => spec64 h ha.big
  have s3 := fun h => spec56 h s ha.big.neg
  unfold negR
  refine callX rfl (by rfl : F 28 = some M.a28) (fun R RO RD RT E => ?_)
  by_cases c1 : rgt s = true
  · rw [if_pos c1]
    rw [c1] at r1
    generalize okC (-a) = z1 at *
    generalize (if InW (-a) then s else 0) = z2 at *
    generalize okE (-a) = z3 at *
    simp [M.a28, E.eqs, zero_dC, wC_zero, r1, s1, s2, s3, fldA, freshB, loadA, storeA, trim_pure, pureT, pureV, pureS]
  · rw [if_neg c1]
    have c1 : rgt s = false := by simpa using c1
    rw [c1] at r1
    simp [M.a28, E.eqs, zero_dC, r1, fldA, freshB, loadA, storeA, trim_pure, pureT, pureV, pureS]

theorem InB.two {x y : Int} (hx : InW x) (hy : InW y) : InB x ∧ InB y ∧ InB (x + y) ∧ InB (x - y) ∧ InB (x + -y) := ⟨hx.big, hy.big, (hx.big2 hy).1, (hx.big2 hy).2, by rw [← Int.sub_eq_add_neg]; exact (hx.big2 hy).2⟩

set_option maxHeartbeats 2000000 in
theorem spec24 (h : Heap) {a s b t : Int} (ha : InW a) (hb : InW b) : call 24 [[Dc a s], [Dc b t]] h = some (bothR false a s b t, h) := by
  have r1 := fun h => spec30 h a s
  have r2 := fun h => spec30 h b t
  unfold bothR
  by_cases hs : rgt s = true ∧ rgt t = true
  · rw [if_pos hs]
    obtain ⟨q1, q2⟩ := hs
    obtain ⟨s0, s1⟩ := rgt_iff.1 q1
    obtain ⟨t0, t1⟩ := rgt_iff.1 q2
    obtain ⟨m1, m2, m3⟩ := mxS_of s t
    have mx : (if s < t then t else s) = mxS s t := rfl
    generalize mxS s t = m at *
    have f1 := fun h => spec61 h (n := a) (s := s) (t := m) ha s0 m1 (by omega)
    have f2 := fun h => spec61 h (n := b) (s := t) (t := m) hb t0 m2 (by omega)
    have b1 := fin_big (k := m - s) ha (by omega) (by omega)
    have b2 := fin_big (k := m - t) hb (by omega) (by omega)
    generalize fin a (m - s) = x at *
    generalize fin b (m - t) = y at *
    have g1 := fun h => spec62 h b1
    have g2 := fun h => spec62 h b2
    rw [q1] at r1
    rw [q2] at r2
    refine callX rfl (by rfl : F 24 = some M.a24) (fun R RO RD RT E => ?_)
    obtain ⟨p1, u1, g1, _⟩ := g1 (h ++ [⟨.var, dC a s⟩, ⟨.var, dC b t⟩, ⟨.var, dC 0 0⟩, ⟨.var, bigC x⟩, ⟨.var, bigC y⟩])
    obtain ⟨p2, u2, g2, _⟩ := g2 (h ++ [⟨.var, dC a s⟩, ⟨.var, dC b t⟩, ⟨.var, dC 0 0⟩, ⟨.var, bigC x⟩, ⟨.var, bigC y⟩, ⟨.var, [.int .i64 p1, .int .u64 u1]⟩])
    clear s0 s1 t0 t1 m1 m2 m3 ha hb
    by_cases hx : InW x
    · rw [decide_eq_true hx] at g1
      by_cases hy : InW y
      · rw [decide_eq_true hy] at g2
        rw [if_pos (show InW x ∧ InW y from ⟨hx, hy⟩)]
        have s3 := fun h => spec63 h b1 b2
        have s4 := fun h => spec56 h m (InB.two hx hy).2.2.1
        simp only [Bool.false_eq_true, if_false]
        generalize x + y = z at *
        generalize okC z = z1 at *
        generalize (if InW z then m else 0) = z2 at *
        generalize okE z = z3 at *
        simp [M.a24, E.eqs, zero_dC, zeros_big, r1, r2, mx, f1, f2, g1, g2, s3, s4, fldA, freshB, loadA, storeA, trim_pure, pureT, pureV, pureS]
      · rw [decide_eq_false hy] at g2
        rw [if_neg (show ¬ (InW x ∧ InW y) from fun c => hy c.2)]
        simp [M.a24, E.eqs, zero_dC, zeros_big, r1, r2, mx, f1, f2, g1, g2, fldA, freshB, loadA, storeA, trim_pure, pureT, pureV, pureS]
    · rw [decide_eq_false hx] at g1
      rw [if_neg (show ¬ (InW x ∧ InW y) from fun c => hx c.1)]
      generalize decide (InW y) = dy at *
      simp [M.a24, E.eqs, zero_dC, zeros_big, r1, r2, mx, f1, f2, g1, g2, fldA, freshB, loadA, storeA, trim_pure, pureT, pureV, pureS]
  · rw [if_neg hs]
    refine callX rfl (by rfl : F 24 = some M.a24) (fun R RO RD RT E => ?_)
    by_cases c1 : rgt s = true
    · have c2 : rgt t = false := by
        cases hq : rgt t
        · rfl
        · exact absurd ⟨c1, hq⟩ hs
      rw [c1] at r1
      rw [c2] at r2
      simp [M.a24, E.eqs, zero_dC, r1, r2, fldA, freshB, loadA, storeA, trim_pure, pureT, pureV, pureS]
    · have c1 : rgt s = false := by simpa using c1
      rw [c1] at r1
      simp [M.a24, E.eqs, zero_dC, r1, fldA, freshB, loadA, storeA, trim_pure, pureT, pureV, pureS]

set_option maxHeartbeats 2000000 in
theorem spec26 (h : Heap) {a s b t : Int} (ha : InW a) (hb : InW b) : call 26 [[Dc a s], [Dc b t]] h = some (bothR true a s b t, h) := by
  have r1 := fun h => spec30 h a s
  have r2 := fun h => spec30 h b t
  unfold bothR
  by_cases hs : rgt s = true ∧ rgt t = true
  · rw [if_pos hs]
    obtain ⟨q1, q2⟩ := hs
    obtain ⟨s0, s1⟩ := rgt_iff.1 q1
    obtain ⟨t0, t1⟩ := rgt_iff.1 q2
    obtain ⟨m1, m2, m3⟩ := mxS_of s t
    have mx : (if s < t then t else s) = mxS s t := rfl
    generalize mxS s t = m at *
    have f1 := fun h => spec61 h (n := a) (s := s) (t := m) ha s0 m1 (by omega)
    have f2 := fun h => spec61 h (n := b) (s := t) (t := m) hb t0 m2 (by omega)
    have b1 := fin_big (k := m - s) ha (by omega) (by omega)
    have b2 := fin_big (k := m - t) hb (by omega) (by omega)
    generalize fin a (m - s) = x at *
    generalize fin b (m - t) = y at *
    have g1 := fun h => spec62 h b1
    have g2 := fun h => spec62 h b2
    rw [q1] at r1
    rw [q2] at r2
    refine callX rfl (by rfl : F 26 = some M.a26) (fun R RO RD RT E => ?_)
    obtain ⟨p1, u1, g1, _⟩ := g1 (h ++ [⟨.var, dC a s⟩, ⟨.var, dC b t⟩, ⟨.var, dC 0 0⟩, ⟨.var, bigC x⟩, ⟨.var, bigC y⟩])
    obtain ⟨p2, u2, g2, _⟩ := g2 (h ++ [⟨.var, dC a s⟩, ⟨.var, dC b t⟩, ⟨.var, dC 0 0⟩, ⟨.var, bigC x⟩, ⟨.var, bigC y⟩, ⟨.var, [.int .i64 p1, .int .u64 u1]⟩])
    clear s0 s1 t0 t1 m1 m2 m3 ha hb
    by_cases hx : InW x
    · rw [decide_eq_true hx] at g1
      by_cases hy : InW y
      · rw [decide_eq_true hy] at g2
        rw [if_pos (show InW x ∧ InW y from ⟨hx, hy⟩)]
        have s3 := fun h => spec63 h b1 b2.neg
        have s5 := fun h => spec64 h b2
        have s4 := fun h => spec56 h m (InB.two hx hy).2.2.2.1
        simp only [if_true]
        rw [← Int.sub_eq_add_neg] at s3
        generalize x - y = z at *
        generalize okC z = z1 at *
        generalize (if InW z then m else 0) = z2 at *
        generalize okE z = z3 at *
        simp [M.a26, E.eqs, zero_dC, zeros_big, r1, r2, mx, f1, f2, g1, g2, s3, s4, s5, fldA, freshB, loadA, storeA, trim_pure, pureT, pureV, pureS]
      · rw [decide_eq_false hy] at g2
        rw [if_neg (show ¬ (InW x ∧ InW y) from fun c => hy c.2)]
        simp [M.a26, E.eqs, zero_dC, zeros_big, r1, r2, mx, f1, f2, g1, g2, fldA, freshB, loadA, storeA, trim_pure, pureT, pureV, pureS]
    · rw [decide_eq_false hx] at g1
      rw [if_neg (show ¬ (InW x ∧ InW y) from fun c => hx c.1)]
      generalize decide (InW y) = dy at *
      simp [M.a26, E.eqs, zero_dC, zeros_big, r1, r2, mx, f1, f2, g1, g2, fldA, freshB, loadA, storeA, trim_pure, pureT, pureV, pureS]
  · rw [if_neg hs]
    refine callX rfl (by rfl : F 26 = some M.a26) (fun R RO RD RT E => ?_)
    by_cases c1 : rgt s = true
    · have c2 : rgt t = false := by
        cases hq : rgt t
        · rfl
        · exact absurd ⟨c1, hq⟩ hs
      rw [c1] at r1
      rw [c2] at r2
      simp [M.a26, E.eqs, zero_dC, r1, r2, fldA, freshB, loadA, storeA, trim_pure, pureT, pureV, pureS]
    · have c1 : rgt s = false := by simpa using c1
      rw [c1] at r1
      simp [M.a26, E.eqs, zero_dC, r1, fldA, freshB, loadA, storeA, trim_pure, pureT, pureV, pureS]
end Go.Proofs.Ytdodhmidhcpnnaa
end

section
set_option linter.unusedVariables false
set_option linter.unusedSimpArgs false
set_option maxRecDepth 100000
namespace Go.Proofs.Ytdodhmidhcpnnaa
open Go.Abs

/-- a product to a scale, and what is wrong -/
def mulR (a s b t to : Int) : TV := if rgt s = true ∧ rgt t = true ∧ rgt to = true then okD (rndI (a * b) (s + t - to)) to else [Dc 0 0, .sc (.int .i64 21)]
theorem mulR_form (a s b t to : Int) : ∃ n m e : Int, mulR a s b t to = [Dc n m, .sc (.int .i64 e)] := by
  unfold mulR
  split
  · exact ⟨_, _, _, rfl⟩
  · exact ⟨0, 0, 21, rfl⟩

theorem rndI_fin {n k : Int} (hk : k ≤ 0) : rndI n k = fin n (-k) := by
  unfold rndI fin
  rw [if_neg (by omega)]
theorem fin_out {n k : Int} (hn : ¬ InW n) (hk : 0 ≤ k) : ¬ InW (fin n k) := by
  unfold fin InW at *
  have hp : (0 : Int) < 10 ^ k.toNat := Int.pow_pos (by omega)
  have h1 : (1 : Int) ≤ 10 ^ k.toNat := by omega
  by_cases h : 0 ≤ n
  · have := Int.mul_le_mul_of_nonneg_left h1 h
    omega
  · have := Int.mul_le_mul_of_nonneg_left h1 (show 0 ≤ -n by omega)
    rw [Int.neg_mul, Int.neg_mul] at this
    omega

set_option maxHeartbeats 2000000 in
theorem spec18 (h : Heap) {a s b t to : Int} (ha : InW a) (hb : InW b) : call 18 [[Dc a s], [Dc b t], [.sc (.int .i64 to)]] h = some (mulR a s b t to, h) := by
  have r1 := fun h => spec29 h a s
  have r2 := fun h => spec29 h b t
  have r3 := fun h => spec53 h to
  unfold mulR
  refine callX rfl (by rfl : F 18 = some M.a18) (fun R RO RD RT E => ?_)
  by_cases c1 : rgt s = true
  · rw [c1] at r1
    by_cases c2 : rgt t = true
    · rw [c2] at r2
      by_cases c3 : rgt to = true
      · rw [c3] at r3
        rw [if_pos ⟨c1, c2, c3⟩]
        obtain ⟨a0, a1⟩ := rgt_iff.1 c1
        obtain ⟨b0, b1⟩ := rgt_iff.1 c2
        obtain ⟨d0, d1⟩ := rgt_iff.1 c3
        have w0 : IntKind.i64.wrap (s + t) = s + t := wi64 (by omega) (by omega)
        have w1 : IntKind.i64.wrap (s + t - to) = s + t - to := wi64 (by omega) (by omega)
        by_cases hk : 0 ≤ s + t - to
        · have hk' : to ≤ s + t := by omega
          have s1 := fun h => spec54 h ha hb (s + t - to)
          unfold scC scE at s1
          rw [if_pos ⟨hk, by omega⟩, if_pos ⟨hk, by omega⟩] at s1
          have e : rnd (a * b) (s + t - to).toNat = rndI (a * b) (s + t - to) := by
            obtain ⟨m, hm⟩ := Int.eq_ofNat_of_zero_le hk
            rw [hm, rndI_of]
            rfl
          rw [e] at s1
          generalize rndI (a * b) (s + t - to) = r at *
          by_cases hz : InW r
          · rw [okD_in hz]
            have o1 : okC r = r := if_pos hz
            have o2 : okE r = 0 := if_pos hz
            rw [o1, o2] at s1
            simp [M.a18, E.eqs, zero_dC, wC_zero, r1, r2, r3, w0, w1, hk, hk', s1, fldA, freshB, loadA, storeA, trim_pure, pureT, pureV, pureS]
          · rw [okD_out hz]
            have o1 : okC r = 0 := if_neg hz
            have o2 : okE r = 20 := if_neg hz
            rw [o1, o2] at s1
            simp [M.a18, E.eqs, zero_dC, wC_zero, r1, r2, r3, w0, w1, hk, hk', s1, fldA, freshB, loadA, storeA, trim_pure, pureT, pureV, pureS]
        · have hk' : ¬ to ≤ s + t := by omega
          rw [rndI_fin (by omega)]
          have s1 := fun h => spec39 h ha hb
          have w2 : IntKind.i64.wrap (-(s + t - to)) = -(s + t - to) := wi64 (by omega) (by omega)
          have w3 : IntKind.i64.wrap (to - (s + t)) = -(s + t - to) := by rw [wi64 (by omega) (by omega)]; omega
          by_cases hp : InW (a * b)
          · rw [okW_in' hp] at s1
            have s2 := fun h => spec55 h (n := a * b) (k := -(s + t - to)) hp (by omega) (by omega)
            generalize fin (a * b) (-(s + t - to)) = r at *
            generalize a * b = p at *
            by_cases hz : InW r
            · rw [okW_in' hz] at s2
              rw [okD_in hz]
              simp [M.a18, E.eqs, zero_dC, wC_zero, r1, r2, r3, w0, w1, w2, hk, hk', s1, fldA, freshB, loadA, storeA, trim_pure, pureT, pureV, pureS]
              try simp [w3, s2, zero_dC, freshB, loadA, storeA, trim_pure, pureT, pureV, pureS]
            · rw [okW_out' hz] at s2
              rw [okD_out hz]
              simp [M.a18, E.eqs, zero_dC, wC_zero, r1, r2, r3, w0, w1, w2, hk, hk', s1, fldA, freshB, loadA, storeA, trim_pure, pureT, pureV, pureS]
              try simp [w3, s2, zero_dC, freshB, loadA, storeA, trim_pure, pureT, pureV, pureS]
          · rw [okW_out' hp] at s1
            rw [okD_out (fin_out hp (by omega))]
            simp [M.a18, E.eqs, zero_dC, wC_zero, r1, r2, r3, w0, w1, hk, hk', s1, fldA, freshB, loadA, storeA, trim_pure, pureT, pureV, pureS]
      · rw [if_neg (fun c => c3 c.2.2)]
        have c3 : rgt to = false := by simpa using c3
        rw [c3] at r3
        simp [M.a18, E.eqs, zero_dC, r1, r2, r3, fldA, freshB, loadA, storeA, trim_pure, pureT, pureV, pureS]
    · rw [if_neg (fun c => c2 c.2.1)]
      have c2 : rgt t = false := by simpa using c2
      rw [c2] at r2
      simp [M.a18, E.eqs, zero_dC, r1, r2, fldA, freshB, loadA, storeA, trim_pure, pureT, pureV, pureS]
  · rw [if_neg (fun c => c1 c.1)]
    have c1 : rgt s = false := by simpa using c1
    rw [c1] at r1
    simp [M.a18, E.eqs, zero_dC, r1, fldA, freshB, loadA, storeA, trim_pure, pureT, pureV, pureS]

theorem one_Dc : AV.agg (setCells (dC 0 0) 0 (wC 1)) = Dc 1 0 := rfl
theorem inW_one : InW 1 := by unfold InW; omega
theorem spec21 (h : Heap) {a s to : Int} (ha : InW a) : call 21 [[Dc a s], [.sc (.int .i64 to)]] h = some (mulR a s 1 0 to, h) := by
  have s1 := fun h => spec18 h (s := s) (t := 0) (to := to) ha inW_one
  have s2 := fun h => spec45 h (n := 1) (by omega) (by omega)
  obtain ⟨n, m, e, hf⟩ := mulR_form a s 1 0 to
  rw [hf] at s1 ⊢
  refine callX rfl (by rfl : F 21 = some M.a21) (fun R RO RD RT E => ?_)
  simp [M.a21, E.eqs, zero_dC, s1, s2, freshB, loadA, storeA, trim_pure, pureT, pureV, pureS]

set_option maxHeartbeats 2000000 in
theorem spec19 (h : Heap) {a s b t to : Int} (ha : InW a) (hb : InW b) (hto1 : -9223372036854775808 ≤ to) (hto2 : to < 9223372036854775808) : call 19 [[Dc a s], [Dc b t], [.sc (.int .i64 to)]] h = some (mulR a s b t to, h) := by
  have r1 := fun h => spec30 h a s
  have r2 := fun h => spec30 h b t
  unfold mulR
  refine callX rfl (by rfl : F 19 = some M.a19) (fun R RO RD RT E => ?_)
  by_cases c1 : rgt s = true
  · rw [c1] at r1
    by_cases c2 : rgt t = true
    · rw [c2] at r2
      by_cases c3 : rgt to = true
      · rw [if_pos ⟨c1, c2, c3⟩]
        obtain ⟨a0, a1⟩ := rgt_iff.1 c1
        obtain ⟨b0, b1⟩ := rgt_iff.1 c2
        obtain ⟨d0, d1⟩ := rgt_iff.1 c3
        have n0 : ¬ to < 0 := by omega
        have n1 : ¬ 18 < to := by omega
        have w0 : IntKind.i64.wrap (s + t) = s + t := wi64 (by omega) (by omega)
        have w1 : IntKind.i64.wrap (s + t - to) = s + t - to := wi64 (by omega) (by omega)
        have s1 := fun h => spec59 h ha
        have s2 := fun h => spec59 h hb
        have s3 := fun h => spec58 h (a := a) (b := b) (Nat.lt_trans ha.natAbs (by decide)) (Nat.lt_trans hb.natAbs (by decide))
        have s4 := fun h => spec57 h (n := a * b) (k := s + t - to) (ha.mul8 hb) (by omega) (by omega)
        have s5 := fun h => spec56 h to (rndI_big (n := a * b) (k := s + t - to) (ha.mul8 hb) (by omega) (by omega))
        generalize rndI (a * b) (s + t - to) = r at *
        generalize a * b = p at *
        generalize okC r = z1 at *
        generalize (if InW r then to else 0) = z2 at *
        generalize okE r = z3 at *
        simp [M.a19, E.eqs, zero_dC, zeros_big, r1, r2, n0, n1, w0, w1, s1, s2, s3, s4, s5, fldA, freshB, loadA, storeA, trim_pure, pureT, pureV, pureS]
      · rw [if_neg (fun c => c3 c.2.2)]
        have c3 : ¬ (0 ≤ to ∧ to ≤ 18) := fun c => c3 (rgt_iff.2 c)
        by_cases n0 : to < 0
        · simp [M.a19, E.eqs, zero_dC, r1, r2, n0, fldA, freshB, loadA, storeA, trim_pure, pureT, pureV, pureS]
        · have n1 : 18 < to := by omega
          simp [M.a19, E.eqs, zero_dC, r1, r2, n0, n1, fldA, freshB, loadA, storeA, trim_pure, pureT, pureV, pureS]
    · rw [if_neg (fun c => c2 c.2.1)]
      have c2 : rgt t = false := by simpa using c2
      rw [c2] at r2
      simp [M.a19, E.eqs, zero_dC, r1, r2, fldA, freshB, loadA, storeA, trim_pure, pureT, pureV, pureS]
  · rw [if_neg (fun c => c1 c.1)]
    have c1 : rgt s = false := by simpa using c1
    rw [c1] at r1
    simp [M.a19, E.eqs, zero_dC, r1, fldA, freshB, loadA, storeA, trim_pure, pureT, pureV, pureS]

theorem spec22 (h : Heap) {a s to : Int} (ha : InW a) : call 22 [[Dc a s], [.sc (.int .i64 to)]] h = some (mulR a s 1 0 to, h) := by
  have r1 := fun h => spec30 h a s
  have r0 : rgt 0 = true := rfl
  unfold mulR
  rw [Int.mul_one, Int.add_zero]
  refine callX rfl (by rfl : F 22 = some M.a22) (fun R RO RD RT E => ?_)
  by_cases c1 : rgt s = true
  · rw [c1] at r1
    by_cases c3 : rgt to = true
    · rw [if_pos ⟨c1, r0, c3⟩]
      obtain ⟨a0, a1⟩ := rgt_iff.1 c1
      obtain ⟨d0, d1⟩ := rgt_iff.1 c3
      have n0 : ¬ to < 0 := by omega
      have n1 : ¬ 18 < to := by omega
      have w1 : IntKind.i64.wrap (s - to) = s - to := wi64 (by omega) (by omega)
      have s1 := fun h => spec59 h ha
      have h8 : a.natAbs < 4294967296 ^ 8 := Nat.lt_trans ha.natAbs (by decide)
      have s4 := fun h => spec57 h (n := a) (k := s - to) h8 (by omega) (by omega)
      have s5 := fun h => spec56 h to (rndI_big (n := a) (k := s - to) h8 (by omega) (by omega))
      generalize rndI a (s - to) = r at *
      generalize okC r = z1 at *
      generalize (if InW r then to else 0) = z2 at *
      generalize okE r = z3 at *
      simp [M.a22, E.eqs, zero_dC, zeros_big, r1, n0, n1, w1, s1, s4, s5, fldA, freshB, loadA, storeA, trim_pure, pureT, pureV, pureS]
    · rw [if_neg (fun c => c3 c.2.2)]
      have c3 : ¬ (0 ≤ to ∧ to ≤ 18) := fun c => c3 (rgt_iff.2 c)
      by_cases n0 : to < 0
      · simp [M.a22, E.eqs, zero_dC, r1, n0, fldA, freshB, loadA, storeA, trim_pure, pureT, pureV, pureS]
      · have n1 : 18 < to := by omega
        simp [M.a22, E.eqs, zero_dC, r1, n0, n1, fldA, freshB, loadA, storeA, trim_pure, pureT, pureV, pureS]
  · rw [if_neg (fun c => c1 c.1)]
    have c1 : rgt s = false := by simpa using c1
    rw [c1] at r1
    simp [M.a22, E.eqs, zero_dC, r1, fldA, freshB, loadA, storeA, trim_pure, pureT, pureV, pureS]
end Go.Proofs.Ytdodhmidhcpnnaa
end

section
set_option linter.unusedVariables false
set_option linter.unusedSimpArgs false
set_option maxRecDepth 100000
namespace Go.Proofs.Ytdodhmidhcpnnaa
open Go.Abs

theorem sgn_lt {n : Int} (h : n < 0) : sgn n = -1 := by unfold sgn; rw [if_pos h]
theorem sgn_eq {n : Int} (h : n = 0) : sgn n = 0 := by unfold sgn; rw [if_neg (by omega), if_pos h]
theorem sgn_gt {n : Int} (h : 0 < n) : sgn n = 1 := by unfold sgn; rw [if_neg (by omega), if_neg (by omega)]
theorem sgn_negate (n : Int) : -sgn n = sgn (-n) := by
  rcases Int.lt_trichotomy n 0 with h | h | h
  · rw [sgn_lt h, sgn_gt (by omega)]; rfl
  · rw [sgn_eq h, sgn_eq (by omega)]; rfl
  · rw [sgn_gt h, sgn_lt (by omega)]
theorem sgn_small (n : Int) : -1 ≤ sgn n ∧ sgn n ≤ 1 := by unfold sgn; split <;> (try split) <;> omega

theorem rest_lt {a p : Int} (hp : 0 < p) : -p < a.tmod p ∧ a.tmod p < p := by
  rw [← sg_tmod]
  have h1 : a.natAbs % p.natAbs < p.natAbs := Nat.mod_lt _ (by omega)
  generalize a.natAbs % p.natAbs = m at *
  unfold sg
  split <;> omega
theorem quot_in {a p : Int} (ha : InW a) (hp : 0 < p) : InW (a.tdiv p) := by
  rw [← sg_tdiv]
  have h1 := Nat.div_le_self a.natAbs p.natAbs
  generalize a.natAbs / p.natAbs = m at *
  have : decide (p < 0) = false := decide_eq_false (by omega)
  rw [this]
  unfold sg InW at *
  by_cases h : a < 0
  · simp only [h, decide_true]
    simp
    omega
  · simp only [h, decide_false]
    simp
    omega

/-- a quotient and its rest, compared with b, are compared as the number with b times the divisor -/
theorem cmp_quot {a b p : Int} (hp : 0 < p) : (¬ sgn (a.tdiv p - b) = 0 ∧ sgn (a.tdiv p - b) = sgn (a - b * p)) ∨ (sgn (a.tdiv p - b) = 0 ∧ sgn (a.tmod p) = sgn (a - b * p)) := by
  have e := Int.mul_tdiv_add_tmod a p
  obtain ⟨r1, r2⟩ := rest_lt (a := a) hp
  generalize a.tdiv p = q at *
  generalize a.tmod p = r at *
  rcases Int.lt_trichotomy q b with h | h | h
  · left
    have h1 : (q + 1) * p ≤ b * p := Int.mul_le_mul_of_nonneg_right (by omega) (by omega)
    have h2 : (q + 1) * p = p * q + p := by rw [Int.add_mul, Int.one_mul, Int.mul_comm]
    rw [sgn_lt (by omega), sgn_lt (by omega)]
    exact ⟨by omega, rfl⟩
  · right
    subst h
    rw [sgn_eq (by omega)]
    have : a - q * p = r := by rw [Int.mul_comm]; omega
    rw [this]
    exact ⟨rfl, rfl⟩
  · left
    have h1 : (b + 1) * p ≤ q * p := Int.mul_le_mul_of_nonneg_right (by omega) (by omega)
    have h2 : (b + 1) * p = b * p + p := by rw [Int.add_mul, Int.one_mul]
    have h3 : q * p = p * q := Int.mul_comm _ _
    rw [sgn_gt (by omega), sgn_gt (by omega)]
    exact ⟨by omega, rfl⟩

/-- what comparing gives, and what is wrong -/
def cmpV (a s b t : Int) : Int := if rgt s = true ∧ rgt t = true then sgn (fin a (mxS s t - s) - fin b (mxS s t - t)) else 0
def cmpE (s t : Int) : Int := if rgt s = true ∧ rgt t = true then 0 else 21

theorem fin_zero (n : Int) : fin n 0 = n := by unfold fin; simp

set_option maxHeartbeats 2000000 in
theorem spec70 (h : Heap) {a s b t : Int} (ha : InW a) (hb : InW b) (h0 : 0 ≤ t) (h1 : t ≤ s) (h2 : s ≤ 18) : call 70 [[Dc a s], [Dc b t]] h = some ([.sc (.int .i64 (sgn (a - fin b (s - t))))], h) := by
  obtain ⟨p1, p2, p3, p4⟩ := pow_in (k := s - t) (by omega) (by omega)
  have s1 := fun h => spec38 h (s - t)
  rw [p1, p2] at s1
  have w1 : IntKind.i64.wrap (s - t) = s - t := wi64 (by omega) (by omega)
  have s2 := fun h => spec90 h ha p3
  have qi := quot_in ha p4
  have pz : ¬ (10 : Int) ^ (s - t).toNat = 0 := by omega
  unfold dvQ dvR dvE at s2
  rw [if_neg pz, if_neg pz, if_neg pz, if_pos qi] at s2
  have o1 : okC (a.tdiv (10 ^ (s - t).toNat)) = a.tdiv (10 ^ (s - t).toNat) := if_pos qi
  have o2 : okE (a.tdiv (10 ^ (s - t).toNat)) = 0 := if_pos qi
  rw [o1, o2] at s2
  have s3 := fun h => spec44 h qi hb
  have s4 := fun h => spec42 h (tmod_in (b := 10 ^ (s - t).toNat) ha)
  have cq := cmp_quot (a := a) (b := b) p4
  have e : b * 10 ^ (s - t).toNat = fin b (s - t) := rfl
  rw [e] at cq
  refine callX rfl (by rfl : F 70 = some M.a70) (fun R RO RD RT E => ?_)
  clear p1 p2 p3 p4 qi pz o1 o2 e
  generalize sgn (a - fin b (s - t)) = res at *
  generalize (10 : Int) ^ (s - t).toNat = p at *
  generalize sgn (a.tdiv p - b) = c at *
  generalize sgn (a.tmod p) = c2 at *
  generalize a.tdiv p = q at *
  generalize a.tmod p = r at *
  rcases cq with ⟨c1, rfl⟩ | ⟨rfl, rfl⟩
  · simp [M.a70, E.eqs, zero_dC, wC_zero, s1, w1, s2, s3, c1, fldA, freshB, loadA, storeA, trim_pure, pureT, pureV, pureS]
  · simp [M.a70, E.eqs, zero_dC, wC_zero, s1, w1, s2, s3, s4, fldA, freshB, loadA, storeA, trim_pure, pureT, pureV, pureS]

set_option maxHeartbeats 2000000 in
theorem spec46 (h : Heap) {a s b t : Int} (ha : InW a) (hb : InW b) : call 46 [[Dc a s], [Dc b t]] h = some ([.sc (.int .i64 (cmpV a s b t)), .sc (.int .i64 (cmpE s t))], h) := by
  have r1 := fun h => spec29 h a s
  have r2 := fun h => spec29 h b t
  unfold cmpV cmpE
  refine callX rfl (by rfl : F 46 = some M.a46) (fun R RO RD RT E => ?_)
  by_cases c1 : rgt s = true
  · rw [c1] at r1
    by_cases c2 : rgt t = true
    · rw [c2] at r2
      rw [if_pos ⟨c1, c2⟩, if_pos ⟨c1, c2⟩]
      obtain ⟨a0, a1⟩ := rgt_iff.1 c1
      obtain ⟨b0, b1⟩ := rgt_iff.1 c2
      by_cases c3 : s < t
      · have m : mxS s t = t := if_pos c3
        rw [m, Int.sub_self, fin_zero]
        have s1 := fun h => spec70 h (a := b) (s := t) (b := a) (t := s) hb ha a0 (by omega) b1
        have e : IntKind.i64.wrap (-sgn (b - fin a (t - s))) = sgn (fin a (t - s) - b) := by
          have := sgn_small (b - fin a (t - s))
          rw [wi64 (by omega) (by omega), sgn_negate]
          congr 1
          omega
        generalize sgn (fin a (t - s) - b) = r at *
        generalize sgn (b - fin a (t - s)) = r' at *
        simp [M.a46, E.eqs, r1, r2, c3, s1, e, fldA, freshB, loadA, storeA, trim_pure, pureT, pureV, pureS]
      · have m : mxS s t = s := if_neg c3
        rw [m, Int.sub_self, fin_zero]
        have s1 := fun h => spec70 h (a := a) (s := s) (b := b) (t := t) ha hb b0 (by omega) a1
        generalize sgn (a - fin b (s - t)) = r at *
        simp [M.a46, E.eqs, r1, r2, c3, s1, fldA, freshB, loadA, storeA, trim_pure, pureT, pureV, pureS]
    · rw [if_neg (fun c => c2 c.2), if_neg (fun c => c2 c.2)]
      have c2 : rgt t = false := by simpa using c2
      rw [c2] at r2
      simp [M.a46, E.eqs, zero_dC, r1, r2, fldA, freshB, loadA, storeA, trim_pure, pureT, pureV, pureS]
  · rw [if_neg (fun c => c1 c.1), if_neg (fun c => c1 c.1)]
    have c1 : rgt s = false := by simpa using c1
    rw [c1] at r1
    simp [M.a46, E.eqs, zero_dC, r1, fldA, freshB, loadA, storeA, trim_pure, pureT, pureV, pureS]

theorem fin_abs {n k : Int} (hn : InW n) (h0 : 0 ≤ k) (h1 : k ≤ 18) : (fin n k).natAbs < 4294967296 ^ 8 := by
  unfold fin
  rw [Int.natAbs_mul]
  have e : ((10 : Int) ^ k.toNat).natAbs = 10 ^ k.toNat := by rw [← pow_cast]; simp
  rw [e]
  have h2 : 10 ^ k.toNat ≤ 10 ^ 18 := Nat.pow_le_pow_right (by decide) (by omega)
  exact Nat.lt_of_le_of_lt (Nat.mul_le_mul (by unfold InW at hn; omega : n.natAbs ≤ 170141183460469231731687303715884105728) h2) (by decide)

set_option maxHeartbeats 2000000 in
theorem spec47 (h : Heap) {a s b t : Int} (ha : InW a) (hb : InW b) : call 47 [[Dc a s], [Dc b t]] h = some ([.sc (.int .i64 (cmpV a s b t)), .sc (.int .i64 (cmpE s t))], h) := by
  have r1 := fun h => spec30 h a s
  have r2 := fun h => spec30 h b t
  unfold cmpV cmpE
  refine callX rfl (by rfl : F 47 = some M.a47) (fun R RO RD RT E => ?_)
  by_cases c1 : rgt s = true
  · rw [c1] at r1
    by_cases c2 : rgt t = true
    · rw [c2] at r2
      rw [if_pos ⟨c1, c2⟩, if_pos ⟨c1, c2⟩]
      obtain ⟨a0, a1⟩ := rgt_iff.1 c1
      obtain ⟨b0, b1⟩ := rgt_iff.1 c2
      obtain ⟨m1, m2, m3⟩ := mxS_of s t
      have mx : (if s < t then t else s) = mxS s t := rfl
      generalize mxS s t = m at *
      have f1 := fun h => spec61 h (n := a) (s := s) (t := m) ha a0 m1 (by omega)
      have f2 := fun h => spec61 h (n := b) (s := t) (t := m) hb b0 m2 (by omega)
      have b1 := fin_abs (k := m - s) ha (by omega) (by omega)
      have b2 := fin_abs (k := m - t) hb (by omega) (by omega)
      generalize fin a (m - s) = x at *
      generalize fin b (m - t) = y at *
      have l8 : (4294967296 : Nat) ^ 8 + 4294967296 ^ 8 < 4294967296 ^ 15 := by decide
      have s1 := fun h => spec71 h (a := x) (b := y) (by unfold InB; omega) (by unfold InB; omega) (by unfold InB; omega)
      generalize sgn (x - y) = r at *
      clear l8 b1 b2
      simp [M.a47, E.eqs, r1, r2, mx, f1, f2, s1, fldA, freshB, loadA, storeA, trim_pure, pureT, pureV, pureS]
    · rw [if_neg (fun c => c2 c.2), if_neg (fun c => c2 c.2)]
      have c2 : rgt t = false := by simpa using c2
      rw [c2] at r2
      simp [M.a47, E.eqs, zero_dC, r1, r2, fldA, freshB, loadA, storeA, trim_pure, pureT, pureV, pureS]
  · rw [if_neg (fun c => c1 c.1), if_neg (fun c => c1 c.1)]
    have c1 : rgt s = false := by simpa using c1
    rw [c1] at r1
    simp [M.a47, E.eqs, zero_dC, r1, fldA, freshB, loadA, storeA, trim_pure, pureT, pureV, pureS]
end Go.Proofs.Ytdodhmidhcpnnaa
end

section
set_option linter.unusedVariables false
set_option linter.unusedSimpArgs false
set_option maxRecDepth 100000
namespace Go.Proofs.Ytdodhmidhcpnnaa
open Go.Abs

theorem fin_fin (n : Int) {i j : Int} (hi : 0 ≤ i) (hj : 0 ≤ j) : fin (fin n i) j = fin n (i + j) := by
  unfold fin
  rw [Int.mul_assoc, ← Int.pow_add]
  congr 2
  omega
theorem fin_add (n m k : Int) : fin (n + m) k = fin n k + fin m k := by unfold fin; rw [Int.add_mul]
theorem fin_sub (n m k : Int) : fin (n - m) k = fin n k - fin m k := by unfold fin; rw [Int.sub_mul]
theorem ten_pos (k : Int) : (0 : Int) < 10 ^ k.toNat := Int.pow_pos (by omega)
theorem sgn_fin (n k : Int) : sgn (fin n k) = sgn n := by
  unfold fin
  have hp := ten_pos k
  rcases Int.lt_trichotomy n 0 with h | h | h
  · rw [sgn_lt h, sgn_lt (Int.mul_neg_of_neg_of_pos h hp)]
  · subst h; rw [Int.zero_mul]
  · rw [sgn_gt h, sgn_gt (Int.mul_pos h hp)]

theorem rgt_mod (s : Int) : rgt (s % 19) = true := rgt_iff.2 (by omega)
theorem mxS_comm (s t : Int) : mxS s t = mxS t s := by unfold mxS; split <;> split <;> omega
theorem bothR_comm (a s b t : Int) : bothR false a s b t = bothR false b t a s := by
  unfold bothR
  rw [mxS_comm t s]
  by_cases h : rgt s = true ∧ rgt t = true
  · rw [if_pos h, if_pos (show rgt t = true ∧ rgt s = true from ⟨h.2, h.1⟩)]
    generalize fin a (mxS s t - s) = x
    generalize fin b (mxS s t - t) = y
    by_cases hh : InW x ∧ InW y
    · rw [if_pos hh, if_pos (show InW y ∧ InW x from ⟨hh.2, hh.1⟩)]
      simp only [Bool.false_eq_true, if_false, Int.add_comm]
    · rw [if_neg hh, if_neg (show ¬ (InW y ∧ InW x) from fun c => hh ⟨c.2, c.1⟩)]
  · rw [if_neg h, if_neg (show ¬ (rgt t = true ∧ rgt s = true) from fun c => h ⟨c.2, c.1⟩)]
theorem mulR_comm (a s b t to : Int) : mulR a s b t to = mulR b t a s to := by
  unfold mulR
  rw [Int.mul_comm a b, Int.add_comm s t]
  by_cases h : rgt s = true ∧ rgt t = true ∧ rgt to = true
  · rw [if_pos h, if_pos (show rgt t = true ∧ rgt s = true ∧ rgt to = true from ⟨h.2.1, h.1, h.2.2⟩)]
  · rw [if_neg h, if_neg (show ¬ (rgt t = true ∧ rgt s = true ∧ rgt to = true) from fun c => h ⟨c.2.1, c.1, c.2.2⟩)]

/-- a sum that is: its parts, and it, are numbers -/
theorem bothR_ok {sub : Bool} {a s b t n m : Int} (h : bothR sub a s b t = [Dc n m, .sc (.int .i64 0)]) : rgt s = true ∧ rgt t = true ∧ InW (fin a (mxS s t - s)) ∧ InW (fin b (mxS s t - t)) ∧ bothR sub a s b t = [Dc (if sub then fin a (mxS s t - s) - fin b (mxS s t - t) else fin a (mxS s t - s) + fin b (mxS s t - t)) (mxS s t), .sc (.int .i64 0)] ∧ InW (if sub then fin a (mxS s t - s) - fin b (mxS s t - t) else fin a (mxS s t - s) + fin b (mxS s t - t)) := by
  unfold bothR at h ⊢
  by_cases h1 : rgt s = true ∧ rgt t = true
  · rw [if_pos h1] at h ⊢
    by_cases h2 : InW (fin a (mxS s t - s)) ∧ InW (fin b (mxS s t - t))
    · rw [if_pos h2] at h ⊢
      by_cases h3 : InW (if sub then fin a (mxS s t - s) - fin b (mxS s t - t) else fin a (mxS s t - s) + fin b (mxS s t - t))
      · exact ⟨h1.1, h1.2, h2.1, h2.2, okD_in h3, h3⟩
      · rw [okD_out h3] at h
        simp at h
    · rw [if_neg h2] at h
      simp at h
  · rw [if_neg h1] at h
    simp at h

theorem rq_mono {N M D : Nat} (hD : 0 < D) (h : N ≤ M) : rq N D ≤ rq M D := by
  have hq : N / D ≤ M / D := Nat.div_le_div_right h
  unfold rq
  rcases Nat.lt_or_ge (N / D) (M / D) with c | c
  · split <;> split <;> omega
  · have e : N / D = M / D := by omega
    have h1 := Nat.div_add_mod N D
    have h2 := Nat.div_add_mod M D
    rw [e] at h1
    have hr : N % D ≤ M % D := by omega
    by_cases u : rqUp N D
    · have : rqUp M D := by
        unfold rqUp at u ⊢
        rw [e] at u
        omega
      rw [if_pos u, if_pos this, e]
      exact Nat.le_refl _
    · rw [if_neg u]
      omega

/-- what is rounded is at most half of its last place away, and even where it is half -/
theorem rq_half (N : Nat) {D : Nat} (hD : 0 < D) : ∃ d : Int, (N : Int) - (rq N D : Int) * D = d ∧ -(D : Int) ≤ d + d ∧ d + d ≤ D ∧ ((d + d = D ∨ d + d = -(D : Int)) → rq N D % 2 = 0) := by
  refine ⟨_, rfl, ?_⟩
  have h1 := Nat.div_add_mod N D
  have h2 := Nat.mod_lt N hD
  unfold rq
  have e0 : ((N / D * D : Nat) : Int) = ((N / D : Nat) : Int) * D := Int.natCast_mul _ _
  have e2 : N / D * D = D * (N / D) := Nat.mul_comm _ _
  by_cases u : rqUp N D
  · rw [if_pos u]
    have e1 : ((N / D + 1 : Nat) : Int) * D = ((N / D * D : Nat) : Int) + D := by rw [Int.natCast_add, Int.add_mul, e0]; simp
    rw [e1]
    unfold rqUp at u
    refine ⟨by omega, by omega, fun h => by omega⟩
  · rw [if_neg u, Nat.add_zero, ← e0]
    unfold rqUp at u
    refine ⟨by omega, by omega, fun h => by omega⟩

theorem rnd_half (n : Int) (k : Nat) : -(10 : Int) ^ k ≤ (n - rnd n k * 10 ^ k) + (n - rnd n k * 10 ^ k) ∧ (n - rnd n k * 10 ^ k) + (n - rnd n k * 10 ^ k) ≤ 10 ^ k ∧
    (((n - rnd n k * 10 ^ k) + (n - rnd n k * 10 ^ k) = 10 ^ k ∨ (n - rnd n k * 10 ^ k) + (n - rnd n k * 10 ^ k) = -(10 : Int) ^ k) → rnd n k % 2 = 0) := by
  obtain ⟨d, hd, h1, h2, h3⟩ := rq_half n.natAbs (D := 10 ^ k) (Nat.pow_pos (by decide))
  rw [pow_cast] at hd h1 h2 h3
  unfold rnd sg
  generalize rq n.natAbs (10 ^ k) = R at *
  generalize (10 : Int) ^ k = p at *
  by_cases c : n < 0
  · simp only [c, decide_true, if_true]
    have e : n - -(R : Int) * p = -d := by rw [Int.neg_mul]; omega
    rw [e]
    refine ⟨by omega, by omega, fun h => ?_⟩
    have := h3 (by omega)
    omega
  · simp only [c, decide_false, if_false, Bool.false_eq_true]
    have e : n - (R : Int) * p = d := by omega
    rw [e]
    refine ⟨by omega, by omega, fun h => ?_⟩
    have := h3 (by omega)
    omega

theorem rnd_in {n : Int} (hn : InW n) (k : Nat) : InW (rnd n k) := by
  by_cases h0 : k = 0
  · subst h0; rw [rnd_zero]; exact hn
  · have h1 : rq n.natAbs (10 ^ k) ≤ n.natAbs / 10 + 1 := by
      have h2 : 10 ≤ 10 ^ k := by
        have := Nat.pow_le_pow_right (show 0 < 10 by decide) (show 1 ≤ k by omega)
        simpa using this
      have h3 : n.natAbs / 10 ^ k ≤ n.natAbs / 10 := Nat.div_le_div_left h2 (by decide)
      unfold rq
      split <;> omega
    unfold rnd sg
    unfold InW at *
    generalize rq n.natAbs (10 ^ k) = R at *
    split <;> omega

theorem rnd_fin (n : Int) (k : Nat) : rnd (n * 10 ^ k) k = n := by
  have hp : 0 < 10 ^ k := Nat.pow_pos (by decide)
  have hpi : (0 : Int) < 10 ^ k := Int.pow_pos (by omega)
  have e1 : (n * 10 ^ k).natAbs = n.natAbs * 10 ^ k := by
    rw [Int.natAbs_mul, ← pow_cast, Int.natAbs_natCast]
  have e2 : rq (n.natAbs * 10 ^ k) (10 ^ k) = n.natAbs := by
    have u : ¬ rqUp (n.natAbs * 10 ^ k) (10 ^ k) := by
      unfold rqUp
      rw [Nat.mul_mod_left]
      omega
    unfold rq
    rw [if_neg u, Nat.mul_div_cancel _ hp, Nat.add_zero]
  unfold rnd
  rw [e1, e2]
  unfold sg
  by_cases c : n < 0
  · have : n * 10 ^ k < 0 := Int.mul_neg_of_neg_of_pos c hpi
    rw [decide_eq_true this, if_pos rfl]
    omega
  · have : ¬ n * 10 ^ k < 0 := by
      have := Int.mul_nonneg (show 0 ≤ n by omega) (show (0 : Int) ≤ 10 ^ k by omega)
      omega
    rw [decide_eq_false this, if_neg (by decide)]
    omega

theorem spec32 (h : Heap) {n : Int} (s : Int) (h1 : -9223372036854775808 ≤ n) (h2 : n < 9223372036854775808) : call 32 [[.sc (.int .i64 n)], [.sc (.int .i64 s)]] h = some ([Dc n s], h) := by
  have s1 := fun h => spec45 h h1 h2
  refine callX rfl (by rfl : F 32 = some M.a32) (fun R RO RD RT E => ?_)
  simp [M.a32, E.eqs, zero_dC, s1, fldA, freshB, loadA, storeA, trim_pure, pureT, pureV, pureS]
end Go.Proofs.Ytdodhmidhcpnnaa
end

section
set_option linter.unusedVariables false
set_option linter.unusedSimpArgs false
set_option maxRecDepth 100000
namespace Go.Proofs.Ytdodhmidhcpnnaa
open Go.Abs

theorem bothR_in {sub : Bool} {a s b t : Int} : ∃ n m e : Int, bothR sub a s b t = [Dc n m, .sc (.int .i64 e)] ∧ InW n := by
  unfold bothR
  split
  · split
    · exact ⟨_, _, _, rfl, inW_okC _⟩
    · exact ⟨0, 0, 20, rfl, inW_zero⟩
  · exact ⟨0, 0, 21, rfl, inW_zero⟩
theorem dC_inj {n s n' s' : Int} (ha : InW n) (hb : InW n') (h : dC n s = dC n' s') : n = n' ∧ s = s' := by
  unfold dC at h
  simp only [List.cons.injEq, SV.int.injEq, true_and, and_true] at h
  unfold InW at ha hb
  omega
/-- brought to a scale that is not greater -/
theorem mulR_down {a s to : Int} (ha : InW a) (hs : rgt s = true) (h0 : 0 ≤ to) (h1 : to ≤ s) : mulR a s 1 0 to = [Dc (rnd a (s - to).toNat) to, .sc (.int .i64 0)] := by
  obtain ⟨s0, s18⟩ := rgt_iff.1 hs
  have r0 : rgt 0 = true := rfl
  have rt : rgt to = true := rgt_iff.2 (by omega)
  unfold mulR
  rw [if_pos ⟨hs, r0, rt⟩, Int.mul_one, Int.add_zero]
  obtain ⟨k, hk⟩ := Int.eq_ofNat_of_zero_le (show 0 ≤ s - to by omega)
  rw [hk, rndI_of]
  exact okD_in (rnd_in ha k)
/-- brought to a scale that is not less -/
theorem mulR_up {a s to : Int} (hs : rgt s = true) (h1 : s ≤ to) (h2 : to ≤ 18) : mulR a s 1 0 to = okD (fin a (to - s)) to := by
  obtain ⟨s0, s18⟩ := rgt_iff.1 hs
  have r0 : rgt 0 = true := rfl
  have rt : rgt to = true := rgt_iff.2 (by omega)
  unfold mulR
  rw [if_pos ⟨hs, r0, rt⟩, Int.mul_one, Int.add_zero, rndI_fin (by omega)]
  congr 2
  omega
end Go.Proofs.Ytdodhmidhcpnnaa
end

