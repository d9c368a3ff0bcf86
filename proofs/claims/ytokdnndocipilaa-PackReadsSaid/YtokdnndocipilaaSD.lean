/- Chapter 1: Int and Text of both readers; NewReader. -/
import Derived.Test.YtokdnndocipilaaSC
set_option linter.unusedVariables false
set_option linter.unusedSimpArgs false
set_option maxRecDepth 100000
namespace Go.Proofs.Ytokdnndocipilaa
open Go.Abs

theorem xor_even {n : Int} (h1 : -9223372036854775808 ≤ n) (h2 : n < 9223372036854775808) : bitop .xor .i64 n 0 = n := by
  simp only [bitop]
  rw [show (IntKind.i64.bits) = 64 from rfl, show BitVec.ofInt 64 0 = 0#64 by decide, BitVec.xor_zero, BitVec.toNat_ofInt, wi64']
  omega
theorem xor_odd {n : Int} (h1 : 0 ≤ n) (h2 : n < 9223372036854775808) : bitop .xor .i64 n (-1) = -n - 1 := by
  simp only [bitop]
  rw [show (IntKind.i64.bits) = 64 from rfl, show BitVec.ofInt 64 (-1) = BitVec.allOnes 64 by decide, BitVec.xor_allOnes, BitVec.toNat_not, BitVec.toNat_ofInt, wi64']
  omega
theorem and_one64 {c : Nat} (h : c < 18446744073709551616) : bitop .and .u64 (c : Int) 1 = ((c % 2 : Nat) : Int) := by
  have := and_u64 (a := c) (b := 1) h (by omega)
  rw [Nat.and_one_is_mod] at this
  exact this

section
variable {h : Heap} {i : Nat} {x : SV} {l : List UInt8} {a bad : Nat}

theorem rNum_lt (l : List UInt8) (a bad most : Nat) : (rNum l a bad most).1 < 18446744073709551616 ∧ (a ≤ l.length → (rNum l a bad most).2.1 ≤ l.length) ∧ (bad < 100 → (rNum l a bad most).2.2 < 100) ∧
    ((rNum l a bad most).2.2 = 0 → (rNum l a bad most).1 ≤ most ∧ bad = 0) := by
  obtain ⟨h1, h2⟩ := numD_drop l a
  unfold rNum rN
  generalize numD (l.drop a) 0 0 = D at *
  obtain ⟨n, e, j⟩ := D
  simp only at h1 h2 ⊢
  split
  · rename_i hb; simp <;> omega
  · split
    · simp <;> omega
    · split
      · simp <;> omega
      · simp <;> omega

theorem spec34 (r : Rd h i x l a bad) : call 34 [[.sc (.ptr i 0 3)]] h = some ([.sc (.int .i64 (unzz (rNum l a bad 18446744073709551615).1))], setR h i x (rNum l a bad 18446744073709551615).2.1 (rNum l a bad 18446744073709551615).2.2) := by
  have s1 := spec33 r (most := 18446744073709551615) (by omega)
  obtain ⟨h1, _⟩ := rNum_lt l a bad 18446744073709551615
  generalize rNum l a bad 18446744073709551615 = D at *
  obtain ⟨n, a', b'⟩ := D
  simp only at s1 h1 ⊢
  have a1 := and_one64 h1
  have f1 := fdiv_two n
  obtain ⟨q, hq⟩ : ∃ q, q = n / 2 := ⟨_, rfl⟩
  rw [← hq] at f1
  have w1 : IntKind.i64.wrap (q : Int) = q := wi64 (by omega) (by omega)
  unfold unzz
  by_cases c1 : n % 2 = 1
  · rw [if_pos c1, ← hq]
    rw [c1] at a1
    have x1 := xor_odd (n := q) (by omega) (by omega)
    refine callX rfl (by rfl : F 34 = some M.a34) (fun R RO RD RT E => ?_)
    have w2 : IntKind.i64.wrap 1 = 1 := by rw [wi64']; omega
    have w3 : IntKind.i64.wrap (-1) = -1 := by rw [wi64']; omega
    simp at s1
    simp [M.a34, E.eqs, s1, a1, f1, w1, w2, w3, x1, shAmt, IntKind.bits, trim_len setR_length]
  · rw [if_neg c1, ← hq]
    have c2 : n % 2 = 0 := by omega
    rw [c2] at a1
    have x1 := xor_even (n := q) (by omega) (by omega)
    refine callX rfl (by rfl : F 34 = some M.a34) (fun R RO RD RT E => ?_)
    have w2 : IntKind.i64.wrap 0 = 0 := by rw [wi64']; omega
    simp at s1
    simp [M.a34, E.eqs, s1, a1, f1, w1, w2, x1, shAmt, IntKind.bits, trim_len setR_length]

theorem spec40 (r : Rd h i x l a bad) : call 40 [[.sc (.ptr i 0 3)]] h = some ([.sc (.int .i64 (unzz (rNum l a bad 18446744073709551615).1))], setR h i x (rNum l a bad 18446744073709551615).2.1 (rNum l a bad 18446744073709551615).2.2) := by
  have s1 := spec38 r (most := 18446744073709551615) (by omega)
  obtain ⟨h1, _⟩ := rNum_lt l a bad 18446744073709551615
  generalize rNum l a bad 18446744073709551615 = D at *
  obtain ⟨n, a', b'⟩ := D
  simp only at s1 h1 ⊢
  have t1 : (n : Int).tmod 2 = ((n % 2 : Nat) : Int) := by rw [Int.tmod_eq_emod_of_nonneg (by omega)]; omega
  have t2 := tdiv_two n
  obtain ⟨q, hq⟩ : ∃ q, q = n / 2 := ⟨_, rfl⟩
  rw [← hq] at t2
  have w1 : IntKind.i64.wrap (q : Int) = q := wi64 (by omega) (by omega)
  have w0 : IntKind.u64.wrap (q : Int) = q := wu64 (by omega) (by omega)
  unfold unzz
  by_cases c1 : n % 2 = 1
  · rw [if_pos c1, ← hq]
    rw [c1] at t1
    have w2 : IntKind.i64.wrap (-(q : Int)) = -(q : Int) := wi64 (by omega) (by omega)
    have w3 : IntKind.i64.wrap (-(q : Int) - 1) = -(q : Int) - 1 := wi64 (by omega) (by omega)
    refine callX rfl (by rfl : F 40 = some M.a40) (fun R RO RD RT E => ?_)
    simp at s1
    simp [M.a40, E.eqs, s1, t1, t2, w0, w1, w2, w3, trim_len setR_length]
  · rw [if_neg c1, ← hq]
    have c2 : n % 2 = 0 := by omega
    rw [c2] at t1
    refine callX rfl (by rfl : F 40 = some M.a40) (fun R RO RD RT E => ?_)
    simp at s1
    simp [M.a40, E.eqs, s1, t1, t2, w0, w1, trim_len setR_length]

theorem Rd.app (r : Rd h i x l a bad) (t : Heap) : Rd (h ++ t) i x l a bad :=
  ⟨by rw [List.getElem?_append_left r.lt]; exact r.at_, r.row.mod (Mod.app (fun _ => False) h t) fun _ _ h => h, r.off, r.len, r.le, r.small⟩

/-- a text was read: what is left -/
structure RdT (h : Heap) (i : Nat) (x : SV) (l : List UInt8) (h' : Heap) (y : SV) (T : List UInt8) (a bad : Nat) : Prop where
  rd : Rd h' i x l a bad
  mod : Mod (fun j => j = i) h h'
  own : Own h' y 5 1 T.length (Go.Abs.bytes T)
  new : ∀ j, blk y j → h.length ≤ j

theorem RdT.nil (r : Rd h i x l a bad) {a' bad' : Nat} (h1 : a' ≤ l.length) (h2 : bad' < 100) : RdT h i x l (setR h i x a' bad') .nils [] a' bad' :=
  ⟨r.set h1 h2, setR_mod _ _ _ _ _, own_nils _, fun _ hj => hj.elim⟩
theorem trim_setR {a' bad' : Nat} (r : TV) : trim h (setR h i x a' bad') r = setR h i x a' bad' := trim_len setR_length r

theorem cut_mid (hx : Row h x 1 l.length (Go.Abs.bytes l)) {p n : Nat} (hp : p + n ≤ l.length) : Row h (cutS x 1 p (p + n)) 1 ((l.drop p).take n).length (Go.Abs.bytes ((l.drop p).take n)) := by
  have := cut_row hx (l := p) (r := p + n) (by omega) hp
  have e : ((l.drop p).take n).length = n := by simp; omega
  rw [Nat.add_sub_cancel_left, Nat.mul_one, Nat.mul_one] at this
  rw [e, bytes_take, bytes_drop]
  exact this

theorem spec35 (r : Rd h i x l a bad) {most : Int} (h1 : -9223372036854775808 ≤ most) (h2 : most < 9223372036854775808) :
    ∃ h' y, call 35 [[.sc (.ptr i 0 3)], [.sc (.int .i64 most)]] h = some ([.sc y], h') ∧ RdT h i x l h' y (rText l a bad most).1 (rText l a bad most).2.1 (rText l a bad most).2.2 := by
  have rn := r.nil
  have rf := r.fld
  have l1 := r.l1
  have hle := r.le
  have hlen := r.len
  obtain ⟨mo, hmo⟩ : ∃ mo, mo = (max most 0).toNat := ⟨_, rfl⟩
  have wm : IntKind.u64.wrap (if 0 > most then 0 else most) = (mo : Int) := by rw [wu64']; split <;> omega
  simp only [gt_iff_lt] at wm
  have s1 := spec33 r (most := mo) (by omega)
  unfold rText
  rw [← hmo]
  obtain ⟨b1, b2, b3, b4⟩ := rNum_lt l a bad mo
  generalize rNum l a bad mo = D at *
  obtain ⟨n, a', b'⟩ := D
  simp only at s1 b1 b2 b3 b4 ⊢
  have b2 := b2 r.le
  have b3 := b3 r.small
  have r1 := r.set (a' := a') (bad' := b') b2 b3
  have rn1 := r1.nil
  have rf1 := r1.fld
  have m2 := r1.l2
  by_cases c1 : b' = 0
  · subst c1
    have ln := lenA_row r1.row
    have m0 := r1.l0
    have m1 := r1.l1
    simp only [ne_eq, not_true_eq_false, if_false]
    have w1 : IntKind.i64.wrap ((l.length : Int) - a') = (l.length : Int) - a' := wi64 (by omega) (by omega)
    have w2 : IntKind.u64.wrap ((l.length : Int) - a') = (l.length : Int) - a' := wu64 (by omega) (by omega)
    by_cases c2 : l.length - a' < n
    · have c3 : (l.length : Int) - a' < n := by omega
      have st := r1.s1 (v := (a : Int)) (a' := a) rfl
      rw [setR_set] at st
      have r2 := r.set (a' := a) (bad' := 0) r.le (by omega)
      have sf := spec42 r2 10
      rw [setR_set] at sf
      simp only [c2, if_true]
      refine ⟨_, .nils, callX rfl (by rfl : F 35 = some M.a35) (fun R RO RD RT E => ?_), RdT.nil r r.le (by omega)⟩
      simp at sf
      try simp at s1
      simp [M.a35, E.eqs, rn, rf, l1, wm, s1, rn1, rf1, m0, m1, m2, ln, w1, w2, c3, st, sf, trim_setR]
    · have c3 : ¬ (l.length : Int) - a' < n := by omega
      simp only [c2, if_false]
      have w3 : IntKind.i64.wrap (n : Int) = n := wi64 (by omega) (by omega)
      have w4 : IntKind.i64.wrap ((a' : Int) + n) = (a' : Int) + n := wi64 (by omega) (by omega)
      have w5 : IntKind.i64.wrap (a' : Int) = a' := wi64 (by omega) (by omega)
      have st := r1.s1 (v := (a' : Int) + n) (a' := a' + n) (by omega)
      rw [setR_set] at st
      have r2 := r.set (a' := a' + n) (bad' := 0) (by omega) (by omega)
      have r3 := r2.app [⟨.row 5 1, []⟩]
      have rn2 := r2.nil
      have rf2 := r2.fld
      have k0 := r2.l0
      have k1 := r2.l1
      have rn3 := r3.nil
      have rf3 := r3.fld
      have j0 := r3.l0
      have j1 := r3.l1
      have sl2 : ∀ {lo hi : Nat → Option Nat}, lo 0 = some a' → hi l.length = some (a' + n) → slcA (setR h i x (a' + n) 0) 1 [.sc x] lo hi = some ([.sc (cutS x 1 a' (a' + n))], setR h i x (a' + n) 0) := fun p q => slcA_row r2.row p q (by omega) (by omega)
      have sl3 : ∀ {lo hi : Nat → Option Nat}, lo 0 = some a' → hi l.length = some (a' + n) → slcA (setR h i x (a' + n) 0 ++ [⟨.row 5 1, []⟩]) 1 [.sc x] lo hi = some ([.sc (cutS x 1 a' (a' + n))], setR h i x (a' + n) 0 ++ [⟨.row 5 1, []⟩]) := fun p q => slcA_row r3.row p q (by omega) (by omega)
      have a1 := copy_app (cut_mid r2.row (p := a') (n := n) (by omega)) (by simp; omega)
      have cp := copy_fresh (setR h i x (a' + n) 0) ((l.drop a').take n)
      have hT : ((l.drop a').take n).length = n := by simp; omega
      rw [hT, setR_length] at a1
      rw [setR_length, hT] at cp
      simp only [Int.natCast_add] at k1 j1
      have p1 : (0 : Int) ≤ (a' : Int) + n := by omega
      have p2 : ((a' : Int) + n).toNat = a' + n := by omega
      refine ⟨setR h i x (a' + n) 0 ++ [⟨.row 5 1, Go.Abs.bytes ((l.drop a').take n)⟩], .sl h.length 0 n n, callX rfl (by rfl : F 35 = some M.a35) (fun R RO RD RT E => ?_), ?_⟩
      · try simp at s1
        simp [M.a35, E.eqs, rn, rf, l1, wm, s1, rn1, rf1, m0, m1, m2, ln, w1, w2, w3, w4, w5, c3, st, rn2, rf2, k0, k1, rn3, rf3, j0, j1, sl2, sl3, p1, p2, setR_length, a1]
        simp [trim, pureT, pureV, pureS]
      · have r4 := r2.app [⟨.row 5 1, Go.Abs.bytes ((l.drop a').take n)⟩]
        refine ⟨r4, (setR_mod h i x _ _).trans (Mod.app (fun _ => False) _ _) fun _ _ h => h.elim, ?_, fun j hj => ?_⟩
        · have := cp.own
          simpa [hT] using this
        · have : j = h.length := hj
          omega
  · have c3 : ¬ (b' : Int) = 0 := by omega
    simp only [ne_eq, c1, not_false_eq_true, if_true]
    refine ⟨_, .nils, callX rfl (by rfl : F 35 = some M.a35) (fun R RO RD RT E => ?_), RdT.nil r b2 b3⟩
    try simp at s1
    simp [M.a35, E.eqs, rn, rf, l1, wm, s1, rn1, rf1, m2, c1, c3, trim_setR]
end
end Go.Proofs.Ytokdnndocipilaa
