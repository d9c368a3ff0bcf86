/- Chapter 1: readers: Byte and Num, of the program and of the document. -/
import Derived.Test.YtokdnndocipilaaS9
import Derived.Test.YtokdnndocipilaaS6
set_option linter.unusedVariables false
set_option linter.unusedSimpArgs false
set_option maxRecDepth 100000
namespace Go.Proofs.Ytokdnndocipilaa
open Go.Abs

section
variable {h : Heap} {i : Nat} {x : SV} {l : List UInt8} {a bad : Nat}

theorem spec32 (r : Rd h i x l a bad) {most : Nat} (hm : most < 256) : call 32 [[.sc (.ptr i 0 3)], [.sc (.int .u8 most)]] h = some ([.sc (.int .u8 (rByte l a bad most).1)], setR h i x (rByte l a bad most).2.1 (rByte l a bad most).2.2) := by
  have ln := lenA_row r.row
  have rn := r.nil
  have rf := r.fld
  have l0 := r.l0
  have l1 := r.l1
  have l2 := r.l2
  have hle := r.le
  have hlen := r.len
  by_cases c1 : bad = 0
  · subst c1
    cases hb : l[a]? with
    | none =>
      have c2 : ¬ a < l.length := fun h => by rw [List.getElem?_eq_getElem h] at hb; simp at hb
      have e1 : rByte l a 0 most = (0, a, 10) := by unfold rByte; rw [if_neg (by simp), hb]
      rw [e1]
      have sf := spec42 r 10
      have c3 : ¬ (a : Int) < l.length := by omega
      have c4 : (l.length : Int) ≤ a := by omega
      refine callX rfl (by rfl : F 32 = some M.a32) (fun R RO RD RT E => ?_)
      simp at sf
      simp [M.a32, E.eqs, rn, rf, l0, l1, l2, ln, c3, c4, sf, trim_len setR_length]
    | some b =>
      have c2 : a < l.length := (List.getElem?_eq_some_iff.1 hb).1
      obtain ⟨i1, i2⟩ := byte_at r.row hb
      have c3 : ¬ (l.length : Int) ≤ a := by omega
      by_cases c5 : most < b.toNat
      · have e1 : rByte l a 0 most = (0, a, 12) := by unfold rByte; rw [if_neg (by simp), hb]; simp [c5]
        rw [e1]
        have sf := spec42 r 12
        have c6 : (most : Int) < b.toNat := by omega
        refine callX rfl (by rfl : F 32 = some M.a32) (fun R RO RD RT E => ?_)
        simp at sf
        simp [M.a32, E.eqs, rn, rf, l0, l1, l2, ln, c3, i1, i2, c6, sf, trim_len setR_length]
      · have e1 : rByte l a 0 most = (b.toNat, a + 1, 0) := by unfold rByte; rw [if_neg (by simp), hb]; simp [c5]
        rw [e1]
        have c6 : ¬ (most : Int) < b.toNat := by omega
        have w1 : IntKind.i64.wrap ((a : Int) + 1) = (a : Int) + 1 := wi64 (by omega) (by omega)
        have w2 : IntKind.i64.wrap (a : Int) = a := wi64 (by omega) (by omega)
        have r2 := r.set (a' := a + 1) (bad' := 0) c2 (by omega)
        obtain ⟨j1, j2⟩ := byte_at r2.row hb
        have st := r.s1 (v := (a : Int) + 1) (a' := a + 1) (by omega)
        have rn2 := r2.nil
        have rf2 := r2.fld
        have m0 := r2.l0
        have m1 := r2.l1
        simp only [Int.natCast_add, Int.cast_ofNat_Int] at m1
        refine callX rfl (by rfl : F 32 = some M.a32) (fun R RO RD RT E => ?_)
        simp [M.a32, E.eqs, rn, rf, l0, l1, l2, ln, c3, i1, i2, c6, w1, w2, st, rn2, rf2, m0, m1, j1, j2, trim_len setR_length]
  · have e1 : rByte l a bad most = (0, a, bad) := by unfold rByte; rw [if_pos c1]
    rw [e1, r.same]
    have c3 : ¬ (bad : Int) = 0 := by omega
    refine callX rfl (by rfl : F 32 = some M.a32) (fun R RO RD RT E => ?_)
    simp [M.a32, E.eqs, rn, rf, l0, l1, l2, ln, c1, c3]

theorem spec37 (r : Rd h i x l a bad) {most : Nat} (hm : most < 256) : call 37 [[.sc (.ptr i 0 3)], [.sc (.int .u8 most)]] h = some ([.sc (.int .u8 (rByte l a bad most).1)], setR h i x (rByte l a bad most).2.1 (rByte l a bad most).2.2) := by
  have ln := lenA_row r.row
  have rn := r.nil
  have rf := r.fld
  have l0 := r.l0
  have l1 := r.l1
  have l2 := r.l2
  have hle := r.le
  have hlen := r.len
  by_cases c1 : bad = 0
  · subst c1
    cases hb : l[a]? with
    | none =>
      have c2 : ¬ a < l.length := fun h => by rw [List.getElem?_eq_getElem h] at hb; simp at hb
      have e1 : rByte l a 0 most = (0, a, 10) := by unfold rByte; rw [if_neg (by simp), hb]
      rw [e1]
      have sf := spec44 r a 10
      have c3 : ¬ (a : Int) < l.length := by omega
      have c4 : (l.length : Int) ≤ a := by omega
      refine callX rfl (by rfl : F 37 = some M.a37) (fun R RO RD RT E => ?_)
      simp at sf
      simp [M.a37, E.eqs, rn, rf, l0, l1, l2, ln, c3, c4, sf, trim_len setR_length]
    | some b =>
      have c2 : a < l.length := (List.getElem?_eq_some_iff.1 hb).1
      obtain ⟨i1, i2⟩ := byte_at r.row hb
      have c3 : ¬ (l.length : Int) ≤ a := by omega
      by_cases c5 : most < b.toNat
      · have e1 : rByte l a 0 most = (0, a, 12) := by unfold rByte; rw [if_neg (by simp), hb]; simp [c5]
        rw [e1]
        have sf := spec44 r a 12
        have c6 : (most : Int) < b.toNat := by omega
        refine callX rfl (by rfl : F 37 = some M.a37) (fun R RO RD RT E => ?_)
        simp at sf
        simp [M.a37, E.eqs, rn, rf, l0, l1, l2, ln, c3, i1, i2, c6, sf, trim_len setR_length]
      · have e1 : rByte l a 0 most = (b.toNat, a + 1, 0) := by unfold rByte; rw [if_neg (by simp), hb]; simp [c5]
        rw [e1]
        have c6 : ¬ (most : Int) < b.toNat := by omega
        have w1 : IntKind.i64.wrap ((a : Int) + 1) = (a : Int) + 1 := wi64 (by omega) (by omega)
        have w2 : IntKind.i64.wrap (a : Int) = a := wi64 (by omega) (by omega)
        have r2 := r.set (a' := a + 1) (bad' := 0) c2 (by omega)
        obtain ⟨j1, j2⟩ := byte_at r2.row hb
        have st := r.s1 (v := (a : Int) + 1) (a' := a + 1) (by omega)
        have rn2 := r2.nil
        have rf2 := r2.fld
        have m0 := r2.l0
        have m1 := r2.l1
        simp only [Int.natCast_add, Int.cast_ofNat_Int] at m1
        refine callX rfl (by rfl : F 37 = some M.a37) (fun R RO RD RT E => ?_)
        simp [M.a37, E.eqs, rn, rf, l0, l1, l2, ln, c3, i1, i2, c6, w1, w2, st, rn2, rf2, m0, m1, j1, j2, trim_len setR_length]
  · have e1 : rByte l a bad most = (0, a, bad) := by unfold rByte; rw [if_pos c1]
    rw [e1, r.same]
    have c3 : ¬ (bad : Int) = 0 := by omega
    refine callX rfl (by rfl : F 37 = some M.a37) (fun R RO RD RT E => ?_)
    simp [M.a37, E.eqs, rn, rf, l0, l1, l2, ln, c1, c3]
end
end Go.Proofs.Ytokdnndocipilaa
