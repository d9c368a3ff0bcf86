/- Chapter 1: Int and Text of both readers; NewReader. -/
import Derived.Test.YtoghoddofokekaaDoorSC
set_option linter.unusedVariables false
set_option linter.unusedSimpArgs false
set_option maxRecDepth 100000
namespace Go.Proofs.YtoghoddofokekaaDoor
open Go.Abs

theorem xor_even {n : Int} (h1 : -9223372036854775808 ≤ n) (h2 : n < 9223372036854775808) : bitop .xor .i64 n 0 = n := by
  simp only [bitop]
  rw [show (IntKind.i64.bits) = 64 from rfl, show BitVec.ofInt 64 0 = 0#64 by decide, BitVec.xor_zero, BitVec.toNat_ofInt, wi64']
  omega
theorem xor_odd {n : Int} (h1 : 0 ≤ n) (h2 : n < 9223372036854775808) : bitop .xor .i64 n (-1) = -n - 1 := by
  simp only [bitop]
  rw [show (IntKind.i64.bits) = 64 from rfl, show BitVec.ofInt 64 (-1) = BitVec.allOnes 64 by decide, BitVec.xor_allOnes, BitVec.toNat_not, BitVec.toNat_ofInt, wi64']
  omega
theorem and_one64 {c : Nat} (h : c < 18446744073709551616) : bitop .and .u64 (c : Int) 1 = ((c % 2 : Nat) : Int) := by
  have := and_u64 (a := c) (b := 1) h (by omega)
  rw [Nat.and_one_is_mod] at this
  exact this

section
variable {h : Heap} {i : Nat} {x : SV} {l : List UInt8} {a bad : Nat}

theorem rNum_lt (l : List UInt8) (a bad most : Nat) : (rNum l a bad most).1 < 18446744073709551616 ∧ (a ≤ l.length → (rNum l a bad most).2.1 ≤ l.length) ∧ (bad < 100 → (rNum l a bad most).2.2 < 100) ∧
    ((rNum l a bad most).2.2 = 0 → (rNum l a bad most).1 ≤ most ∧ bad = 0) := by
  obtain ⟨h1, h2⟩ := numD_drop l a
  unfold rNum rN
  generalize numD (l.drop a) 0 0 = D at *
  obtain ⟨n, e, j⟩ := D
  simp only at h1 h2 ⊢
  split
  · rename_i hb; simp <;> omega
  · split
    · simp <;> omega
    · split
      · simp <;> omega
      · simp <;> omega

theorem spec60 (r : Rd h i x l a bad) : call 60 [[.sc (.ptr i 0 3)]] h = some ([.sc (.int .i64 (unzz (rNum l a bad 18446744073709551615).1))], setR h i x (rNum l a bad 18446744073709551615).2.1 (rNum l a bad 18446744073709551615).2.2) := by
  have s1 := spec52 r (most := 18446744073709551615) (by omega)
  obtain ⟨h1, _⟩ := rNum_lt l a bad 18446744073709551615
  generalize rNum l a bad 18446744073709551615 = D at *
  obtain ⟨n, a', b'⟩ := D
  simp only at s1 h1 ⊢
  have a1 := and_one64 h1
  have f1 := fdiv_two n
  obtain ⟨q, hq⟩ : ∃ q, q = n / 2 := ⟨_, rfl⟩
  rw [← hq] at f1
  have w1 : IntKind.i64.wrap (q : Int) = q := wi64 (by omega) (by omega)
  unfold unzz
  by_cases c1 : n % 2 = 1
  · rw [if_pos c1, ← hq]
    rw [c1] at a1
    have x1 := xor_odd (n := q) (by omega) (by omega)
    refine callX rfl (by rfl : F 60 = some M.a60) (fun R RO RD RT E => ?_)
    have w2 : IntKind.i64.wrap 1 = 1 := by rw [wi64']; omega
    have w3 : IntKind.i64.wrap (-1) = -1 := by rw [wi64']; omega
    simp at s1
    simp [M.a60, E.eqs, s1, a1, f1, w1, w2, w3, x1, shAmt, IntKind.bits, trim_len setR_length]
  · rw [if_neg c1, ← hq]
    have c2 : n % 2 = 0 := by omega
    rw [c2] at a1
    have x1 := xor_even (n := q) (by omega) (by omega)
    refine callX rfl (by rfl : F 60 = some M.a60) (fun R RO RD RT E => ?_)
    have w2 : IntKind.i64.wrap 0 = 0 := by rw [wi64']; omega
    simp at s1
    simp [M.a60, E.eqs, s1, a1, f1, w1, w2, x1, shAmt, IntKind.bits, trim_len setR_length]

theorem spec58 (r : Rd h i x l a bad) : call 58 [[.sc (.ptr i 0 3)]] h = some ([.sc (.int .i64 (unzz (rNum l a bad 18446744073709551615).1))], setR h i x (rNum l a bad 18446744073709551615).2.1 (rNum l a bad 18446744073709551615).2.2) := by
  have s1 := spec47 r (most := 18446744073709551615) (by omega)
  obtain ⟨h1, _⟩ := rNum_lt l a bad 18446744073709551615
  generalize rNum l a bad 18446744073709551615 = D at *
  obtain ⟨n, a', b'⟩ := D
  simp only at s1 h1 ⊢
  have t1 : (n : Int).tmod 2 = ((n % 2 : Nat) : Int) := by rw [Int.tmod_eq_emod_of_nonneg (by omega)]; omega
  have t2 := tdiv_two n
  obtain ⟨q, hq⟩ : ∃ q, q = n / 2 := ⟨_, rfl⟩
  rw [← hq] at t2
  have w1 : IntKind.i64.wrap (q : Int) = q := wi64 (by omega) (by omega)
  have w0 : IntKind.u64.wrap (q : Int) = q := wu64 (by omega) (by omega)
  unfold unzz
  by_cases c1 : n % 2 = 1
  · rw [if_pos c1, ← hq]
    rw [c1] at t1
    have w2 : IntKind.i64.wrap (-(q : Int)) = -(q : Int) := wi64 (by omega) (by omega)
    have w3 : IntKind.i64.wrap (-(q : Int) - 1) = -(q : Int) - 1 := wi64 (by omega) (by omega)
    refine callX rfl (by rfl : F 58 = some M.a58) (fun R RO RD RT E => ?_)
    simp at s1
    simp [M.a58, E.eqs, s1, t1, t2, w0, w1, w2, w3, trim_len setR_length]
  · rw [if_neg c1, ← hq]
    have c2 : n % 2 = 0 := by omega
    rw [c2] at t1
    refine callX rfl (by rfl : F 58 = some M.a58) (fun R RO RD RT E => ?_)
    simp at s1
    simp [M.a58, E.eqs, s1, t1, t2, w0, w1, trim_len setR_length]

theorem Rd.app (r : Rd h i x l a bad) (t : Heap) : Rd (h ++ t) i x l a bad :=
  ⟨by rw [List.getElem?_append_left r.lt]; exact r.at_, r.row.mod (Mod.app (fun _ => False) h t) fun _ _ h => h, r.off, r.len, r.le, r.small⟩

/-- a text was read: what is left -/
structure RdT (h : Heap) (i : Nat) (x : SV) (l : List UInt8) (h' : Heap) (y : SV) (T : List UInt8) (a bad : Nat) : Prop where
  rd : Rd h' i x l a bad
  mod : Mod (fun j => j = i) h h'
  own : Own h' y 5 1 T.length (Go.Abs.bytes T)
  new : ∀ j, blk y j → h.length ≤ j

theorem RdT.nil (r : Rd h i x l a bad) {a' bad' : Nat} (h1 : a' ≤ l.length) (h2 : bad' < 100) : RdT h i x l (setR h i x a' bad') .nils [] a' bad' :=
  ⟨r.set h1 h2, setR_mod _ _ _ _ _, own_nils _, fun _ hj => hj.elim⟩
theorem trim_setR {a' bad' : Nat} (r : TV) : trim h (setR h i x a' bad') r = setR h i x a' bad' := trim_len setR_length r

theorem cut_mid (hx : Row h x 1 l.length (Go.Abs.bytes l)) {p n : Nat} (hp : p + n ≤ l.length) : Row h (cutS x 1 p (p + n)) 1 ((l.drop p).take n).length (Go.Abs.bytes ((l.drop p).take n)) := by
  have := cut_row hx (l := p) (r := p + n) (by omega) hp
  have e : ((l.drop p).take n).length = n := by simp; omega
  rw [Nat.add_sub_cancel_left, Nat.mul_one, Nat.mul_one] at this
  rw [e, bytes_take, bytes_drop]
  exact this

end
end Go.Proofs.YtoghoddofokekaaDoor
