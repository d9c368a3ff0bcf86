/- Chapter 5: amounts and replies, read. -/
import Derived.Test.YtoghoddofokekaaSE
import Derived.Test.YtoghoddofokekaaC2
set_option linter.unusedVariables false
set_option linter.unusedSimpArgs false
set_option maxRecDepth 100000
namespace Go.Proofs.Ytoghoddofokekaa
open Go.Abs

theorem rByte_lt (l : List UInt8) (a bad most : Nat) : (a ≤ l.length → (rByte l a bad most).2.1 ≤ l.length) ∧ (bad < 100 → (rByte l a bad most).2.2 < 100) ∧ (rByte l a bad most).1 < 256 := by
  unfold rByte
  split
  · simp
  · split
    · simp
    · rename_i b hb
      have := (List.getElem?_eq_some_iff.1 hb).1
      have := b.toNat_lt
      split <;> simp <;> omega

/-- from one state of a reader to a later one -/
structure RdS (h : Heap) (i : Nat) (x : SV) (l : List UInt8) (h' : Heap) (a bad : Nat) : Prop where
  rd : Rd h' i x l a bad
  mod : Mod (fun j => j = i) h h'

section
variable {h h' h'' : Heap} {i : Nat} {x : SV} {l : List UInt8} {a bad a' bad' : Nat}
theorem Rd.go (r : Rd h i x l a bad) (h1 : a' ≤ l.length) (h2 : bad' < 100) : RdS h i x l (setR h i x a' bad') a' bad' := ⟨r.set h1 h2, setR_mod _ _ _ _ _⟩
theorem RdS.trans (s : RdS h i x l h' a bad) (t : RdS h' i x l h'' a' bad') : RdS h i x l h'' a' bad' := ⟨t.rd, s.mod.trans t.mod fun _ _ h => h⟩
/-- cells beside the reader are written -/
theorem Rd.beside (r : Rd h i x l a bad) {S : Nat → Prop} (m : Mod S h h') (hi : ¬ S i) (hb : ∀ j, blk x j → ¬ S j) : Rd h' i x l a bad :=
  ⟨m.get r.at_ hi, r.row.mod m hb, r.off, r.len, r.le, r.small⟩
theorem RdS.trim {a0 bad0 : Nat} (r : Rd h i x l a0 bad0) (s : RdS h i x l h' a bad) (t : TV) : RdS h i x l (Go.Abs.trim h h' t) a bad :=
  ⟨⟨by rw [trim_get s.mod.1 t r.lt]; exact s.rd.at_, r.row.mod (trim_mod' s.mod) fun j hj e => r.off (e ▸ hj), s.rd.off, s.rd.len, s.rd.le, s.rd.small⟩, trim_mod' s.mod⟩

theorem getR0 (t : Heap) : (setR h i x a bad ++ t)[h.length]? = t[0]? := by rw [← setR_length (h := h) (i := i) (x := x) (a := a) (bad := bad)]; exact get_loc0 _ _
theorem getR (t : Heap) (k : Nat) : (setR h i x a bad ++ t)[h.length + k]? = t[k]? := by rw [← setR_length (h := h) (i := i) (x := x) (a := a) (bad := bad)]; exact get_loc _ _ _
theorem putR0 (t : Heap) (B : Blk) : (setR h i x a bad ++ t).set h.length B = setR h i x a bad ++ t.set 0 B := by
  have := set_loc0 (setR h i x a bad) t B
  rw [setR_length] at this
  exact this
theorem putR (t : Heap) (k : Nat) (B : Blk) : (setR h i x a bad ++ t).set (h.length + k) B = setR h i x a bad ++ t.set k B := by
  have := set_loc (setR h i x a bad) t k B
  rw [setR_length] at this
  exact this

theorem setR_app (r : Rd h i x l a bad) (t : Heap) {a1 b1 a2 b2 : Nat} : setR (setR h i x a1 b1 ++ t) i x a2 b2 = setR h i x a2 b2 ++ t := by
  unfold setR
  rw [List.set_append_left _ _ (by rw [List.length_set]; exact r.lt), List.set_set]

variable {a0 bad0 : Nat}
theorem byteP (r : Rd h i x l a0 bad0) (h1 : a ≤ l.length) (h2 : bad < 100) {most : Nat} (hm : most < 256) (t : Heap) : call 74 [[.sc (.ptr i 0 3)], [.sc (.int .u8 most)]] (setR h i x a bad ++ t) = some ([.sc (.int .u8 (rByte l a bad most).1)], setR h i x (rByte l a bad most).2.1 (rByte l a bad most).2.2 ++ t) := by
  rw [spec74 ((r.set h1 h2).app t) hm, setR_app r]
theorem byteQ (r : Rd h i x l a0 bad0) (h1 : a ≤ l.length) (h2 : bad < 100) {most : Nat} (hm : most < 256) (t : Heap) : call 78 [[.sc (.ptr i 0 3)], [.sc (.int .u8 most)]] (setR h i x a bad ++ t) = some ([.sc (.int .u8 (rByte l a bad most).1)], setR h i x (rByte l a bad most).2.1 (rByte l a bad most).2.2 ++ t) := by
  rw [spec78 ((r.set h1 h2).app t) hm, setR_app r]
theorem numP (r : Rd h i x l a0 bad0) (h1 : a ≤ l.length) (h2 : bad < 100) {most : Nat} (hm : most < 18446744073709551616) (t : Heap) : call 75 [[.sc (.ptr i 0 3)], [.sc (.int .u64 most)]] (setR h i x a bad ++ t) = some ([.sc (.int .u64 (rNum l a bad most).1)], setR h i x (rNum l a bad most).2.1 (rNum l a bad most).2.2 ++ t) := by
  rw [spec75 ((r.set h1 h2).app t) hm, setR_app r]
theorem numQ (r : Rd h i x l a0 bad0) (h1 : a ≤ l.length) (h2 : bad < 100) {most : Nat} (hm : most < 18446744073709551616) (t : Heap) : call 79 [[.sc (.ptr i 0 3)], [.sc (.int .u64 most)]] (setR h i x a bad ++ t) = some ([.sc (.int .u64 (rNum l a bad most).1)], setR h i x (rNum l a bad most).2.1 (rNum l a bad most).2.2 ++ t) := by
  rw [spec79 ((r.set h1 h2).app t) hm, setR_app r]
theorem intP (r : Rd h i x l a0 bad0) (h1 : a ≤ l.length) (h2 : bad < 100) (t : Heap) : call 111 [[.sc (.ptr i 0 3)]] (setR h i x a bad ++ t) = some ([.sc (.int .i64 (unzz (rNum l a bad 18446744073709551615).1))], setR h i x (rNum l a bad 18446744073709551615).2.1 (rNum l a bad 18446744073709551615).2.2 ++ t) := by
  rw [spec111 ((r.set h1 h2).app t), setR_app r]
theorem intQ (r : Rd h i x l a0 bad0) (h1 : a ≤ l.length) (h2 : bad < 100) (t : Heap) : call 113 [[.sc (.ptr i 0 3)]] (setR h i x a bad ++ t) = some ([.sc (.int .i64 (unzz (rNum l a bad 18446744073709551615).1))], setR h i x (rNum l a bad 18446744073709551615).2.1 (rNum l a bad 18446744073709551615).2.2 ++ t) := by
  rw [spec113 ((r.set h1 h2).app t), setR_app r]

/-- a decimal that is read: its three numbers, the place, what is wrong -/
def rDec (l : List UInt8) (a bad : Nat) : (Int × Nat × Nat) × Nat × Nat :=
  let r1 := rByte l a bad 18
  let r2 := rNum l r1.2.1 r1.2.2 18446744073709551615
  let r3 := rNum l r2.2.1 r2.2.2 18446744073709551615
  ((unzz r2.1, r3.1, r1.1), r3.2.1, r3.2.2)
theorem rDec_lt (l : List UInt8) (a bad : Nat) (ha : a ≤ l.length) (hb : bad < 100) : (rDec l a bad).2.1 ≤ l.length ∧ (rDec l a bad).2.2 < 100 := by
  obtain ⟨h1, h2, _⟩ := rByte_lt l a bad 18
  obtain ⟨_, h3, h4, _⟩ := rNum_lt l (rByte l a bad 18).2.1 (rByte l a bad 18).2.2 18446744073709551615
  obtain ⟨_, h5, h6, _⟩ := rNum_lt l (rNum l (rByte l a bad 18).2.1 (rByte l a bad 18).2.2 18446744073709551615).2.1 (rNum l (rByte l a bad 18).2.1 (rByte l a bad 18).2.2 18446744073709551615).2.2 18446744073709551615
  exact ⟨h5 (h3 (h1 ha)), h6 (h4 (h2 hb))⟩

theorem wi64n {n : Nat} (h : n < 256) : IntKind.i64.wrap (n : Int) = n := wi64 (by omega) (by omega)

theorem spec76 (r : Rd h i x l a bad) : ∃ h', call 76 [[.sc (.ptr i 0 3)]] h = some ([.agg [.int .i64 (rDec l a bad).1.1, .int .u64 (rDec l a bad).1.2.1, .int .i64 (rDec l a bad).1.2.2]], h') ∧ RdS h i x l h' (rDec l a bad).2.1 (rDec l a bad).2.2 := by
  obtain ⟨h1, h2, hb⟩ := rByte_lt l a bad 18
  have h1 := h1 r.le
  have h2 := h2 r.small
  have q1 := byteP r r.le r.small (most := 18) (by omega)
  unfold rDec
  generalize rByte l a bad 18 = D1 at *
  obtain ⟨n1, a1, b1⟩ := D1
  simp only at h1 h2 hb q1 ⊢
  obtain ⟨_, h3, h4, _⟩ := rNum_lt l a1 b1 18446744073709551615
  have h3 := h3 h1
  have h4 := h4 h2
  have q2 := intP r h1 h2
  generalize rNum l a1 b1 18446744073709551615 = D2 at *
  obtain ⟨n2, a2, b2⟩ := D2
  simp only at h3 h4 q2 ⊢
  obtain ⟨_, h5, h6, _⟩ := rNum_lt l a2 b2 18446744073709551615
  have h5 := h5 h3
  have h6 := h6 h4
  have q3 := numP r h3 h4 (most := 18446744073709551615) (by omega)
  generalize rNum l a2 b2 18446744073709551615 = D3 at *
  obtain ⟨n3, a3, b3⟩ := D3
  simp only at h5 h6 q3 ⊢
  rw [r.same] at q1
  have w1 := wi64n hb
  have z1 : ((18 : Nat) : Int) = 18 := rfl
  have z2 : ((18446744073709551615 : Nat) : Int) = 18446744073709551615 := rfl
  rw [z1] at q1
  rw [z2] at q3
  generalize unzz n2 = u2 at *
  refine ⟨_, callX (hh := trim h (setR h i x a3 b3 ++ [⟨.var, [.int .i64 u2, .int .u64 n3, .int .i64 n1]⟩, ⟨.var, [.int .i64 u2, .int .u64 n3, .int .i64 n1]⟩]) [.agg [.int .i64 u2, .int .u64 n3, .int .i64 n1]]) rfl (by rfl : F 76 = some M.a76) (fun R RO RD RT E => ?_), RdS.trim r ⟨(r.set h5 h6).app _, (setR_mod _ _ _ _ _).trans (Mod.app (fun _ => False) _ _) fun _ _ h => h.elim⟩ [.agg [.int .i64 u2, .int .u64 n3, .int .i64 n1]]⟩
  simp [M.a76, E.eqs, fldA, freshB, loadA, storeA, q1, q2, q3, w1, getR0, getR, putR0, putR]

theorem spec80 (r : Rd h i x l a bad) : ∃ h', call 80 [[.sc (.ptr i 0 3)]] h = some ([.agg [.int .i64 (rDec l a bad).1.1, .int .u64 (rDec l a bad).1.2.1, .int .i64 (rDec l a bad).1.2.2]], h') ∧ RdS h i x l h' (rDec l a bad).2.1 (rDec l a bad).2.2 := by
  obtain ⟨h1, h2, hb⟩ := rByte_lt l a bad 18
  have h1 := h1 r.le
  have h2 := h2 r.small
  have q1 := byteQ r r.le r.small (most := 18) (by omega)
  unfold rDec
  generalize rByte l a bad 18 = D1 at *
  obtain ⟨n1, a1, b1⟩ := D1
  simp only at h1 h2 hb q1 ⊢
  obtain ⟨_, h3, h4, _⟩ := rNum_lt l a1 b1 18446744073709551615
  have h3 := h3 h1
  have h4 := h4 h2
  have q2 := intQ r h1 h2
  generalize rNum l a1 b1 18446744073709551615 = D2 at *
  obtain ⟨n2, a2, b2⟩ := D2
  simp only at h3 h4 q2 ⊢
  obtain ⟨_, h5, h6, _⟩ := rNum_lt l a2 b2 18446744073709551615
  have h5 := h5 h3
  have h6 := h6 h4
  have q3 := numQ r h3 h4 (most := 18446744073709551615) (by omega)
  generalize rNum l a2 b2 18446744073709551615 = D3 at *
  obtain ⟨n3, a3, b3⟩ := D3
  simp only at h5 h6 q3 ⊢
  rw [r.same] at q1
  have w1 := wi64n hb
  have z1 : ((18 : Nat) : Int) = 18 := rfl
  have z2 : ((18446744073709551615 : Nat) : Int) = 18446744073709551615 := rfl
  rw [z1] at q1
  rw [z2] at q3
  generalize unzz n2 = u2 at *
  refine ⟨_, callX (hh := trim h (setR h i x a3 b3 ++ [⟨.var, [.int .i64 u2, .int .u64 n3, .int .i64 n1]⟩]) [.agg [.int .i64 u2, .int .u64 n3, .int .i64 n1]]) rfl (by rfl : F 80 = some M.a80) (fun R RO RD RT E => ?_), RdS.trim r ⟨(r.set h5 h6).app _, (setR_mod _ _ _ _ _).trans (Mod.app (fun _ => False) _ _) fun _ _ h => h.elim⟩ [.agg [.int .i64 u2, .int .u64 n3, .int .i64 n1]]⟩
  simp [M.a80, E.eqs, fldA, freshB, loadA, storeA, q1, q2, q3, w1, getR0, getR, putR0, putR]
end
end Go.Proofs.Ytoghoddofokekaa
