/- Chapter 3: decimals: their cells, scales, a finer scale. -/
import Derived.Test.YtdodhmidhcpnnaaNM
import Derived.Test.YtdodhmidhcpnnaaS7
import Derived.Test.YtdodhmidhcpnnaaY2
set_option linter.unusedVariables false
set_option linter.unusedSimpArgs false
set_option maxRecDepth 100000
namespace Go.Proofs.Ytdodhmidhcpnnaa
open Go.Abs

/-- the cells of a decimal -/
def dC (n s : Int) : List SV := [.int .i64 (n / 18446744073709551616), .int .u64 (n % 18446744073709551616), .int .i64 s]
@[simp] theorem dC_length (n s : Int) : (dC n s).length = 3 := rfl
@[simp] theorem dC_take (n s : Int) : List.take 3 (dC n s) = dC n s := rfl
@[simp] theorem dC_num (n s : Int) : List.take 2 (dC n s) = wC n := rfl
@[simp] theorem dC_scale (n s : Int) : (dC n s)[2]? = some (.int .i64 s) := rfl
@[simp] theorem dC_scale' (n s : Int) (h : 2 < (dC n s).length) : (dC n s)[2] = .int .i64 s := rfl
theorem dC_hi (n s : Int) : (dC n s)[0]? = some (.int .i64 (n / 18446744073709551616)) := rfl
theorem dC_hi' (n s : Int) (h : 0 < (dC n s).length) : (dC n s)[0] = .int .i64 (n / 18446744073709551616) := rfl
@[simp] theorem dC_pure (n s : Int) : (dC n s).all pureS = true := rfl
@[simp] theorem dC_put (n s m t : Int) : setCells (dC m t) 0 (dC n s) = dC n s := rfl
@[simp] theorem dC_put_num (n m t : Int) : setCells (dC m t) 0 (wC n) = dC n t := rfl
@[simp] theorem dC_put_scale (n s t : Int) : (dC n t).set 2 (.int .i64 s) = dC n s := rfl
theorem zero_dC : [SV.int .i64 0, .int .u64 0, .int .i64 0] = dC 0 0 := rfl
@[simp] theorem dC_eqK (n s : Int) : eqK [.i, .i, .i] (dC n s) (dC n s) = some true := by simp [dC]
abbrev Dc (n s : Int) : AV := .agg (dC n s)

theorem in_dec {H : Type} {k : Nat} {tv : TV} {d : DataW H} {h : Heap} (hi : In1 Try.prog h (k + 3) 26 tv d) : ∃ n s : Int, tv = [Dc n s] ∧ InW n ∧ -9223372036854775808 ≤ s ∧ s < 9223372036854775808 := by
  obtain ⟨xs, hv, rfl⟩ := hi
  obtain ⟨parts2, rfl, hl2, hp2, hf2⟩ := View.fields (L := [(24, 0, 2), (3, 2, 1)]) (n := 3) (by kernel_rfl) (by kernel_rfl) hv
  have ha : Go.Abs.isAgg Try.prog 26 = true := by kernel_rfl
  match xs, hl2, parts2, hp2 with
  | [x2, x3, x4], _, [r0, r1], _ =>
    have f3 : View Try.prog h (k + 1 + 1) 24 [x2, x3] r0 := hf2 0 _ _ rfl rfl
    obtain ⟨s, q5, q6, _⟩ := View.int (by kernel_rfl : Try.prog.underlying 3 = some (.int .i64)) (hf2 1 _ _ rfl rfl)
    obtain ⟨parts3, rfl, hl3, hp3, hf3⟩ := View.fields (L := [(2, 0, 1), (22, 1, 1)]) (n := 2) (by kernel_rfl) (by kernel_rfl) f3
    match parts3, hp3 with
    | [u0, u1], _ =>
      obtain ⟨c, q7, q8, _⟩ := View.int (by kernel_rfl : Try.prog.underlying 2 = some (.int .i64)) (hf3 0 _ _ rfl rfl)
      obtain ⟨e, q9, q10, _⟩ := View.int (by kernel_rfl : Try.prog.underlying 22 = some (.int .u64)) (hf3 1 _ _ rfl rfl)
      simp at q5 q7 q9
      subst q5 q7 q9
      have q8 := wf_i64 q8
      have q10 := wf_u64 q10
      refine ⟨c * 18446744073709551616 + e, s, ?_, by unfold InW; omega, wf_i64 q6⟩
      have e1 : (c * 18446744073709551616 + e) / 18446744073709551616 = c := by omega
      have e2 : (c * 18446744073709551616 + e) % 18446744073709551616 = e := by omega
      rw [ha]
      unfold Dc dC
      rw [e1, e2]
      rfl

/-- is it a scale? -/
def rgt (s : Int) : Bool := decide (0 ≤ s) && decide (s ≤ 18)
theorem rgt_iff {s : Int} : rgt s = true ↔ 0 ≤ s ∧ s ≤ 18 := by simp [rgt]
theorem rgt_not {s : Int} (h : rgt s = false) : ¬ (0 ≤ s ∧ s ≤ 18) := by
  intro c
  rw [rgt_iff.2 c] at h
  contradiction

theorem spec53 (h : Heap) (s : Int) : call 53 [[.sc (.int .i64 s)]] h = some ([.sc (.bool (rgt s))], h) := by
  unfold rgt
  refine callX rfl (by rfl : F 53 = some M.a53) (fun R RO RD RT E => ?_)
  by_cases c1 : 0 ≤ s
  · simp [M.a53, E.eqs, c1]
  · simp [M.a53, E.eqs, c1]
theorem spec29 (h : Heap) (n s : Int) : call 29 [[Dc n s]] h = some ([.sc (.bool (rgt s))], h) := by
  have s1 := fun h => spec53 h s
  refine callX rfl (by rfl : F 29 = some M.a29) (fun R RO RD RT E => ?_)
  simp [M.a29, E.eqs, s1, fldA, freshB, loadA, trim_pure, pureT, pureV, pureS]
theorem spec30 (h : Heap) (n s : Int) : call 30 [[Dc n s]] h = some ([.sc (.bool (rgt s))], h) := by
  unfold rgt
  refine callX rfl (by rfl : F 30 = some M.a30) (fun R RO RD RT E => ?_)
  by_cases c1 : 0 ≤ s
  · simp [M.a30, E.eqs, c1, fldA, freshB, loadA, trim_pure, pureT, pureV, pureS]
  · simp [M.a30, E.eqs, c1, fldA, freshB, loadA, trim_pure, pureT, pureV, pureS]

/-- a scale brought within bounds, or as it is -/
def nearS (b : Bool) (s : Int) : Int := if b then s % 19 else s
theorem nearS_in {b : Bool} {s : Int} (h1 : -9223372036854775808 ≤ s) (h2 : s < 9223372036854775808) : -9223372036854775808 ≤ nearS b s ∧ nearS b s < 9223372036854775808 := by
  unfold nearS
  split <;> omega
theorem spec17 (h : Heap) (n : Int) {s : Int} (b : Bool) (h1 : -9223372036854775808 ≤ s) (h2 : s < 9223372036854775808) : call 17 [[Dc n s], [.sc (.bool b)]] h = some ([Dc n (nearS b s)], h) := by
  have s1 := fun h => spec16 h (n := s) (m := 19) (by omega) (by omega) h1 h2
  refine callX rfl (by rfl : F 17 = some M.a17) (fun R RO RD RT E => ?_)
  unfold nearS
  cases b
  · simp [M.a17, E.eqs, zero_dC, fldA, freshB, loadA, storeA, trim_pure, pureT, pureV, pureS]
  · generalize s % 19 = s' at *
    simp [M.a17, E.eqs, zero_dC, s1, fldA, freshB, loadA, storeA, trim_pure, pureT, pureV, pureS]
theorem spec35 (h : Heap) (n : Int) {s : Int} (b : Bool) (h1 : -9223372036854775808 ≤ s) (h2 : s < 9223372036854775808) : call 35 [[Dc n s], [.sc (.bool b)]] h = some ([Dc n (nearS b s)], h) := by
  have s1 := fun h => spec16 h (n := s) (m := 19) (by omega) (by omega) h1 h2
  refine callX rfl (by rfl : F 35 = some M.a35) (fun R RO RD RT E => ?_)
  unfold nearS
  cases b
  · simp [M.a35, E.eqs, zero_dC, fldA, freshB, loadA, storeA, trim_pure, pureT, pureV, pureS]
  · generalize s % 19 = s' at *
    simp [M.a35, E.eqs, zero_dC, s1, fldA, freshB, loadA, storeA, trim_pure, pureT, pureV, pureS]

theorem pow_in {k : Int} (h0 : 0 ≤ k) (h1 : k ≤ 18) : powC k = 10 ^ k.toNat ∧ powE k = 0 ∧ InW (10 ^ k.toNat) ∧ (0 : Int) < 10 ^ k.toNat := by
  unfold powC powE
  rw [if_pos ⟨h0, by omega⟩, if_pos ⟨h0, by omega⟩]
  exact ⟨rfl, rfl, ten_in (by omega), Int.pow_pos (by omega)⟩

/-- a number at a finer scale, by so many digits -/
def fin (n k : Int) : Int := n * 10 ^ k.toNat

theorem spec55 (h : Heap) {n k : Int} (hn : InW n) (h0 : 0 ≤ k) (h1 : k ≤ 18) : call 55 [[W n], [.sc (.int .i64 k)]] h = some (okW (fin n k), h) := by
  obtain ⟨p1, p2, p3, _⟩ := pow_in h0 h1
  have s1 := fun h => spec38 h k
  rw [p1, p2] at s1
  have s2 := fun h => spec39 h hn p3
  have e : n * 10 ^ k.toNat = fin n k := rfl
  rw [e] at s2
  refine callX rfl (by rfl : F 55 = some M.a55) (fun R RO RD RT E => ?_)
  generalize (10 : Int) ^ k.toNat = p at *
  generalize fin n k = r at *
  simp [M.a55, E.eqs, wC_zero, s1, s2, freshB, loadA, storeA, trim_pure, pureT, pureV, pureS]

theorem fin_big {n k : Int} (hn : InW n) (h0 : 0 ≤ k) (h1 : k ≤ 18) : InB (fin n k) := by
  have := rndI_big (n := n) (k := -k) (Nat.lt_trans hn.natAbs (by decide)) (by omega) (by omega)
  obtain ⟨m, rfl⟩ := Int.eq_ofNat_of_zero_le h0
  rw [rndI_neg] at this
  exact this

theorem spec61 (h : Heap) {n s t : Int} (hn : InW n) (h0 : 0 ≤ s) (h1 : s ≤ t) (h2 : t ≤ 18) : call 61 [[Dc n s], [.sc (.int .i64 t)]] h = some ([.agg (bigC (fin n (t - s)))], h) := by
  have s1 := fun h => spec59 h hn
  have s2 := fun h => spec57 h (n := n) (k := s - t) (Nat.lt_trans hn.natAbs (by decide)) (by omega) (by omega)
  have e : rndI n (s - t) = fin n (t - s) := by
    unfold rndI fin
    rw [if_neg (by omega)]
    congr 2
    omega
  rw [e] at s2
  have w1 : IntKind.i64.wrap (s - t) = s - t := wi64 (by omega) (by omega)
  refine callX rfl (by rfl : F 61 = some M.a61) (fun R RO RD RT E => ?_)
  generalize fin n (t - s) = r at *
  simp [M.a61, E.eqs, zeros_big, s1, s2, w1, fldA, freshB, loadA, storeA, trim_pure, pureT, pureV, pureS]

/-- a number with a scale, or nothing -/
abbrev okD (n s : Int) : TV := [Dc (okC n) (if InW n then s else 0), .sc (.int .i64 (okE n))]
theorem okD_in {n s : Int} (h : InW n) : okD n s = [Dc n s, .sc (.int .i64 0)] := by unfold okD okC okE; rw [if_pos h, if_pos h, if_pos h]
theorem okD_out {n s : Int} (h : ¬ InW n) : okD n s = [Dc 0 0, .sc (.int .i64 20)] := by unfold okD okC okE; rw [if_neg h, if_neg h, if_neg h]

theorem spec56 (h : Heap) {n : Int} (s : Int) (hn : InB n) : call 56 [[.agg (bigC n)], [.sc (.int .i64 s)]] h = some (okD n s, h) := by
  have s1 := fun h => spec62 h hn
  refine callX rfl (by rfl : F 56 = some M.a56) (fun R RO RD RT E => ?_)
  obtain ⟨p, q, s1, hpq⟩ := s1 (h ++ [⟨.var, bigC n⟩, ⟨.var, dC 0 0⟩])
  by_cases c2 : InW n
  · rw [okD_in c2]
    rw [hpq c2] at s1
    simp [M.a56, E.eqs, zero_dC, wC_zero, s1, c2, fldA, freshB, loadA, storeA, trim_pure, pureT, pureV, pureS]
  · rw [okD_out c2]
    simp [M.a56, E.eqs, zero_dC, s1, c2, fldA, freshB, loadA, storeA, trim_pure, pureT, pureV, pureS]
end Go.Proofs.Ytdodhmidhcpnnaa
