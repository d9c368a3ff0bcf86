/- Chapter 1: the document's Text; NewReader. -/
import Derived.Test.YtokdnndocipilaaSD
set_option linter.unusedVariables false
set_option linter.unusedSimpArgs false
set_option maxRecDepth 100000
namespace Go.Proofs.Ytokdnndocipilaa
open Go.Abs

section
variable {h : Heap} {i : Nat} {x : SV} {l : List UInt8} {a bad : Nat}

theorem spec39 (r : Rd h i x l a bad) {most : Int} (h1 : -9223372036854775808 ≤ most) (h2 : most < 9223372036854775808) :
    ∃ h' y, call 39 [[.sc (.ptr i 0 3)], [.sc (.int .i64 most)]] h = some ([.sc y], h') ∧ RdT h i x l h' y (rText l a bad most).1 (rText l a bad most).2.1 (rText l a bad most).2.2 := by
  have rn := r.nil
  have rf := r.fld
  have l1 := r.l1
  have l2 := r.l2
  have hle := r.le
  have hlen := r.len
  by_cases c0 : bad = 0
  · subst c0
    obtain ⟨mo, hmo⟩ : ∃ mo, mo = (max most 0).toNat := ⟨_, rfl⟩
    have wm : IntKind.u64.wrap (if most > 0 then most else 0) = (mo : Int) := by rw [wu64']; split <;> omega
    simp only [gt_iff_lt] at wm
    have s1 := spec38 r (most := mo) (by omega)
    unfold rText
    rw [← hmo]
    obtain ⟨b1, b2, b3, b4⟩ := rNum_lt l a 0 mo
    generalize rNum l a 0 mo = D at *
    obtain ⟨n, a', b'⟩ := D
    simp only at s1 b1 b2 b3 b4 ⊢
    have b2 := b2 r.le
    have b3 := b3 r.small
    have r1 := r.set (a' := a') (bad' := b') b2 b3
    have rn1 := r1.nil
    have rf1 := r1.fld
    have m2 := r1.l2
    by_cases c1 : b' = 0
    · subst c1
      have ln := lenA_row r1.row
      have m0 := r1.l0
      have m1 := r1.l1
      simp only [ne_eq, not_true_eq_false, if_false]
      have w1 : IntKind.i64.wrap ((l.length : Int) - a') = (l.length : Int) - a' := wi64 (by omega) (by omega)
      have w2 : IntKind.u64.wrap ((l.length : Int) - a') = (l.length : Int) - a' := wu64 (by omega) (by omega)
      by_cases c2 : l.length - a' < n
      · have c3 : (l.length : Int) - a' < n := by omega
        have sf := spec44 r1 a 10
        rw [setR_set] at sf
        simp only [c2, if_true]
        refine ⟨_, .nils, callX rfl (by rfl : F 39 = some M.a39) (fun R RO RD RT E => ?_), RdT.nil r r.le (by omega)⟩
        simp at sf
        try simp at s1
        simp [M.a39, E.eqs, rn, rf, l1, l2, wm, s1, rn1, rf1, m0, m1, m2, ln, w1, w2, c3, sf, trim_setR]
      · have c3 : ¬ (l.length : Int) - a' < n := by omega
        simp only [c2, if_false]
        have w3 : IntKind.i64.wrap (n : Int) = n := wi64 (by omega) (by omega)
        have w4 : IntKind.i64.wrap ((a' : Int) + n) = (a' : Int) + n := wi64 (by omega) (by omega)
        have r3 := r1.app [⟨.row 5 1, []⟩]
        have r4 := r1.app [⟨.row 5 1, Go.Abs.bytes ((l.drop a').take n)⟩]
        have st := r4.s1 (v := (a' : Int) + n) (a' := a' + n) (by omega)
        have rn3 := r3.nil
        have rf3 := r3.fld
        have j0 := r3.l0
        have j1 := r3.l1
        have rn4 := r4.nil
        have rf4 := r4.fld
        have i1 := r4.l1
        have sl2 : ∀ {lo hi : Nat → Option Nat}, lo 0 = some a' → hi l.length = some (a' + n) → slcA (setR h i x a' 0) 1 [.sc x] lo hi = some ([.sc (cutS x 1 a' (a' + n))], setR h i x a' 0) := fun p q => slcA_row r1.row p q (by omega) (by omega)
        have sl3 : ∀ {lo hi : Nat → Option Nat}, lo 0 = some a' → hi l.length = some (a' + n) → slcA (setR h i x a' 0 ++ [⟨.row 5 1, []⟩]) 1 [.sc x] lo hi = some ([.sc (cutS x 1 a' (a' + n))], setR h i x a' 0 ++ [⟨.row 5 1, []⟩]) := fun p q => slcA_row r3.row p q (by omega) (by omega)
        have a1 := copy_app (cut_mid r1.row (p := a') (n := n) (by omega)) (by simp; omega)
        have cp := copy_fresh (setR h i x a' 0) ((l.drop a').take n)
        have hT : ((l.drop a').take n).length = n := by simp; omega
        rw [hT, setR_length] at a1
        rw [setR_length, hT] at cp
        have p1 : (0 : Int) ≤ (a' : Int) + n := by omega
        have p2 : ((a' : Int) + n).toNat = a' + n := by omega
        have r5 := r4.set (a' := a' + n) (bad' := 0) (by omega) (by omega)
        have nt : ∀ hh : Heap, trim h hh [.sc (.sl h.length 0 n n)] = hh := fun hh => by simp [trim, pureT, pureV, pureS]
        refine ⟨setR (setR h i x a' 0 ++ [⟨.row 5 1, Go.Abs.bytes ((l.drop a').take n)⟩]) i x (a' + n) 0, .sl h.length 0 n n, callX rfl (by rfl : F 39 = some M.a39) (fun R RO RD RT E => ?_), ?_⟩
        · try simp at s1
          simp [M.a39, E.eqs, rn, rf, l1, l2, wm, s1, rn1, rf1, m0, m1, m2, ln, w1, w2, w3, w4, c3, rn3, rf3, j0, j1, rn4, rf4, i1, st, sl2, sl3, p1, p2, setR_length, a1, nt]
        · refine ⟨r5, ((setR_mod h i x _ _).trans (Mod.app (fun _ => False) _ _) fun _ _ h => h.elim).trans (setR_mod _ _ _ _ _) fun _ _ h => h, ?_, fun j hj => ?_⟩
          · have := cp.own.mod (setR_mod _ i x (a' + n) 0) fun j hj e => by
              have hj : j = h.length := hj
              have := r.lt
              omega
            simpa [hT] using this
          · have : j = h.length := hj
            omega
    · have c3 : ¬ (b' : Int) = 0 := by omega
      simp only [ne_eq, c1, not_false_eq_true, if_true]
      refine ⟨_, .nils, callX rfl (by rfl : F 39 = some M.a39) (fun R RO RD RT E => ?_), RdT.nil r b2 b3⟩
      try simp at s1
      simp [M.a39, E.eqs, rn, rf, l1, l2, wm, s1, rn1, rf1, m2, c1, c3, trim_setR]
  · have e1 : rText l a bad most = ([], a, bad) := by
      unfold rText rNum
      simp [c0]
    rw [e1]
    have c3 : ¬ (bad : Int) = 0 := by omega
    have rd := RdT.nil r r.le r.small
    rw [r.same] at rd
    refine ⟨_, .nils, callX rfl (by rfl : F 39 = some M.a39) (fun R RO RD RT E => ?_), rd⟩
    simp [M.a39, E.eqs, rn, rf, l1, l2, c0, c3]
end

theorem spec31 {h : Heap} {y : SV} {l : List UInt8} (hy : Row h y 1 l.length (Go.Abs.bytes l)) (hl : l.length ≤ 140737488353280) :
    call 31 [[.sc y]] h = some ([.sc (.ptr (h.length + 1) 0 3)], h ++ [⟨.row 5 1, Go.Abs.bytes l⟩, ⟨.var, [.sl h.length 0 l.length l.length, .int .i64 0, .int .i64 0]⟩]) ∧
    Rd (h ++ [⟨.row 5 1, Go.Abs.bytes l⟩, ⟨.var, [.sl h.length 0 l.length l.length, .int .i64 0, .int .i64 0]⟩]) (h.length + 1) (.sl h.length 0 l.length l.length) l 0 0 := by
  have a1 := copy_app hy (by omega)
  refine ⟨callX rfl (by rfl : F 31 = some M.a31) (fun R RO RD RT E => ?_), ⟨by simp, ?_, ?_, hl, by omega, by omega⟩⟩
  · simp [M.a31, E.eqs, a1]
    simp [trim, pureT, pureV, pureS]
  · exact .inr ⟨h.length, 0, l.length, _, rfl, get_loc0 h _, by simp [bytes_length], by omega, rfl, by simp [← bytes_length l]⟩
  · intro hb
    have : h.length + 1 = h.length := hb
    omega
end Go.Proofs.Ytokdnndocipilaa
