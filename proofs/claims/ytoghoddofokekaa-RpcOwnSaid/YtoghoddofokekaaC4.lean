/- Chapter 5: replies, read. -/
import Derived.Test.YtoghoddofokekaaC3
set_option linter.unusedVariables false
set_option linter.unusedSimpArgs false
set_option maxRecDepth 100000
namespace Go.Proofs.Ytoghoddofokekaa
open Go.Abs

/-- a reply's cells, and what is wrong -/
def rRep (l : List UInt8) : List SV × Nat :=
  let r1 := rByte l 0 0 99
  let r2 := rNum l r1.2.1 r1.2.2 18446744073709551615
  let r3 := rDec l r2.2.1 r2.2.2
  let e := rEnd l r3.2.1 r3.2.2
  (if e = 0 then [.int .i64 r1.1, .int .u64 r2.1, .int .i64 r3.1.1, .int .u64 r3.1.2.1, .int .i64 r3.1.2.2] else [.int .i64 0, .int .u64 0, .int .i64 0, .int .u64 0, .int .i64 0], e)

theorem Mod.old {h h' : Heap} (m : Mod (fun j => h.length ≤ j) h h') : Mod (fun _ => False) h h' := ⟨m.1, fun j hj _ => m.2 j hj (by omega)⟩

section
variable {h : Heap} {y : SV} {l : List UInt8}

set_option maxHeartbeats 1000000 in
theorem spec32 (hy : Row h y 1 l.length (Go.Abs.bytes l)) (hl : l.length ≤ 140737488353280) : ∃ h', call 32 [[.sc y]] h = some ([.agg (rRep l).1, .sc (.int .i64 (rRep l).2)], h') ∧ Mod (fun _ => False) h h' := by
  have hy1 := hy.mod (Mod.app (fun _ => False) h [⟨.var, [.int .i64 0, .int .u64 0, .int .i64 0, .int .u64 0, .int .i64 0]⟩]) fun _ _ h => h
  obtain ⟨e1, r0⟩ := spec73 hy1 hl
  have m0 : Mod (fun _ => False) h (h ++ [⟨.var, [.int .i64 0, .int .u64 0, .int .i64 0, .int .u64 0, .int .i64 0]⟩] ++ [⟨.row 5 1, Go.Abs.bytes l⟩, ⟨.var, [.sl (h ++ [⟨.var, [.int .i64 0, .int .u64 0, .int .i64 0, .int .u64 0, .int .i64 0]⟩] : Heap).length 0 l.length l.length, .int .i64 0, .int .i64 0]⟩]) := (Mod.app _ _ _).trans (Mod.app (fun _ => False) _ _) fun _ _ h => h
  have g0 : (h ++ [⟨.var, [.int .i64 0, .int .u64 0, .int .i64 0, .int .u64 0, .int .i64 0]⟩] ++ [⟨.row 5 1, Go.Abs.bytes l⟩, ⟨.var, [.sl (h ++ [⟨.var, [.int .i64 0, .int .u64 0, .int .i64 0, .int .u64 0, .int .i64 0]⟩] : Heap).length 0 l.length l.length, .int .i64 0, .int .i64 0]⟩] : Heap)[h.length]? = some ⟨.var, [.int .i64 0, .int .u64 0, .int .i64 0, .int .u64 0, .int .i64 0]⟩ := by simp
  have hi : (h ++ [⟨.var, [.int .i64 0, .int .u64 0, .int .i64 0, .int .u64 0, .int .i64 0]⟩] : Heap).length + 1 = h.length + 2 := by simp
  generalize (h ++ [⟨.var, [.int .i64 0, .int .u64 0, .int .i64 0, .int .u64 0, .int .i64 0]⟩] ++ [⟨.row 5 1, Go.Abs.bytes l⟩, ⟨.var, [.sl (h ++ [⟨.var, [.int .i64 0, .int .u64 0, .int .i64 0, .int .u64 0, .int .i64 0]⟩] : Heap).length 0 l.length l.length, .int .i64 0, .int .i64 0]⟩] : Heap) = h0 at *
  generalize SV.sl (h ++ [⟨.var, [.int .i64 0, .int .u64 0, .int .i64 0, .int .u64 0, .int .i64 0]⟩] : Heap).length 0 l.length l.length = x at *
  generalize (h ++ [⟨.var, [.int .i64 0, .int .u64 0, .int .i64 0, .int .u64 0, .int .i64 0]⟩] : Heap).length + 1 = i at *
  have hlt := r0.lt
  obtain ⟨h1, h2, hb⟩ := rByte_lt l 0 0 99
  have h1 := h1 r0.le
  have h2 := h2 r0.small
  have q1 := byteP r0 r0.le r0.small (most := 99) (by omega)
  unfold rRep
  generalize rByte l 0 0 99 = D1 at *
  obtain ⟨n1, a1, b1⟩ := D1
  simp only at h1 h2 hb q1 ⊢
  obtain ⟨_, h3, h4, _⟩ := rNum_lt l a1 b1 18446744073709551615
  have h3 := h3 h1
  have h4 := h4 h2
  have q2 := numP r0 h1 h2 (most := 18446744073709551615) (by omega)
  generalize rNum l a1 b1 18446744073709551615 = D2 at *
  obtain ⟨n2, a2, b2⟩ := D2
  simp only at h3 h4 q2 ⊢
  obtain ⟨g3, q3, s3⟩ := spec76 ((r0.set h3 h4).app [⟨.var, [.int .i64 n1, .int .u64 n2, .int .i64 0, .int .u64 0, .int .i64 0]⟩])
  generalize rDec l a2 b2 = D3 at *
  obtain ⟨⟨u, n3, n4⟩, a3, b3⟩ := D3
  simp only at q3 s3 ⊢
  have k0 : g3[h0.length]? = some ⟨.var, [.int .i64 n1, .int .u64 n2, .int .i64 0, .int .u64 0, .int .i64 0]⟩ := s3.mod.get (getR0 _) (by omega)
  have k1 : g3[h.length]? = some ⟨.var, [.int .i64 0, .int .u64 0, .int .i64 0, .int .u64 0, .int .i64 0]⟩ := s3.mod.get (by
    rw [List.getElem?_append_left (by rw [setR_length]; omega)]
    exact (setR_mod h0 i x a2 b2).get g0 (by omega)) (by omega)
  obtain ⟨B4, hB4⟩ : ∃ B4 : Blk, B4 = ⟨.var, [.int .i64 n1, .int .u64 n2, .int .i64 u, .int .u64 n3, .int .i64 n4]⟩ := ⟨_, rfl⟩
  have m4 : Mod (fun j => j = h0.length) g3 (g3.set h0.length B4) := Mod.set _ _ rfl
  have r4 := s3.rd.beside m4 (by omega) fun j hj e => by
    have := r0.row.lt j hj
    omega
  have q4 := spec77 r4
  have k4 : (g3.set h0.length B4)[h0.length]? = some B4 := get_set_same k0
  have k5 : (g3.set h0.length B4)[h.length]? = some ⟨.var, [.int .i64 0, .int .u64 0, .int .i64 0, .int .u64 0, .int .i64 0]⟩ := m4.get k1 (by omega)
  have k6 : ∀ B : Blk, ((g3.set h0.length B4).set h.length B)[h.length]? = some B := fun B => get_set_same k5
  have hmod : ∀ B : Blk, B.k = .var ∧ B.c.length = 5 → Mod (fun _ => False) h ((g3.set h0.length B4).set h.length B) := fun B hB => by
    have hle := m0.1
    have x1 : Mod (fun j => j = i ∨ j = h0.length ∨ j = h.length) h0 (setR h0 i x a2 b2) := (setR_mod h0 i x a2 b2).mono fun j _ e => .inl e
    have x2 : Mod (fun j => j = i ∨ j = h0.length ∨ j = h.length) _ (setR h0 i x a2 b2 ++ [⟨.var, [.int .i64 n1, .int .u64 n2, .int .i64 0, .int .u64 0, .int .i64 0]⟩]) := Mod.app _ _ _
    have x3 := s3.mod.mono (S' := fun j => j = i ∨ j = h0.length ∨ j = h.length) fun j _ e => .inl e
    have x4 := m4.mono (S' := fun j => j = i ∨ j = h0.length ∨ j = h.length) fun j _ e => .inr (.inl e)
    have x5 : Mod (fun j => j = i ∨ j = h0.length ∨ j = h.length) (g3.set h0.length B4) ((g3.set h0.length B4).set h.length B) := Mod.set _ _ (.inr (.inr rfl))
    exact m0.trans ((((x1.trans x2 fun _ _ h => h).trans x3 fun _ _ h => h).trans x4 fun _ _ h => h).trans x5 fun _ _ h => h) fun j hj hs => by
      rcases hs with e | e | e <;> omega
  rw [r0.same] at q1
  have w1 := wi64n hb
  have z1 : ((99 : Nat) : Int) = 99 := rfl
  have z2 : ((18446744073709551615 : Nat) : Int) = 18446744073709551615 := rfl
  rw [z1] at q1
  rw [z2] at q2
  subst hB4
  by_cases c1 : rEnd l a3 b3 = 0
  · rw [if_pos c1, c1]
    rw [c1] at q4
    refine ⟨_, callX (hh := trim h ((g3.set h0.length ⟨.var, [.int .i64 n1, .int .u64 n2, .int .i64 u, .int .u64 n3, .int .i64 n4]⟩).set h.length ⟨.var, [.int .i64 n1, .int .u64 n2, .int .i64 u, .int .u64 n3, .int .i64 n4]⟩) [.agg [.int .i64 n1, .int .u64 n2, .int .i64 u, .int .u64 n3, .int .i64 n4], .sc (.int .i64 0)]) rfl (by rfl : F 32 = some M.a32) (fun R RO RD RT E => ?_), trim_mod' (hmod _ ⟨rfl, rfl⟩)⟩
    simp [M.a32, E.eqs, e1, fldA, freshB, loadA, storeA, q1, q2, q3, q4, w1, getR0, getR, putR0, putR, k0, k4, k5, k6]
  · rw [if_neg c1]
    have c2 : ¬ ((rEnd l a3 b3 : Nat) : Int) = 0 := by omega
    refine ⟨_, callX (hh := trim h ((g3.set h0.length ⟨.var, [.int .i64 n1, .int .u64 n2, .int .i64 u, .int .u64 n3, .int .i64 n4]⟩).set h.length ⟨.var, [.int .i64 0, .int .u64 0, .int .i64 0, .int .u64 0, .int .i64 0]⟩) [.agg [.int .i64 0, .int .u64 0, .int .i64 0, .int .u64 0, .int .i64 0], .sc (.int .i64 (rEnd l a3 b3 : Nat))]) rfl (by rfl : F 32 = some M.a32) (fun R RO RD RT E => ?_), trim_mod' (hmod _ ⟨rfl, rfl⟩)⟩
    generalize rEnd l a3 b3 = e at *
    simp [M.a32, E.eqs, e1, fldA, freshB, loadA, storeA, q1, q2, q3, q4, c1, c2, w1, getR0, getR, putR0, putR, k0, k4, k5, k6]
set_option maxHeartbeats 1000000 in
theorem spec33 (hy : Row h y 1 l.length (Go.Abs.bytes l)) (hl : l.length ≤ 140737488353280) : ∃ h', call 33 [[.sc y]] h = some ([.agg (rRep l).1, .sc (.int .i64 (rRep l).2)], h') ∧ Mod (fun _ => False) h h' := by
  obtain ⟨h0, hh0⟩ : ∃ h0 : Heap, h0 = h ++ [⟨.var, [.int .i64 0, .int .u64 0, .int .i64 0, .int .u64 0, .int .i64 0]⟩, ⟨.var, [y, .int .i64 0, .int .i64 0]⟩] := ⟨_, rfl⟩
  obtain ⟨i, hi⟩ : ∃ i, i = h.length + 1 := ⟨_, rfl⟩
  have m0 : Mod (fun _ => False) h h0 := by rw [hh0]; exact Mod.app _ _ _
  have g0 : h0[h.length]? = some ⟨.var, [.int .i64 0, .int .u64 0, .int .i64 0, .int .u64 0, .int .i64 0]⟩ := by rw [hh0]; simp
  have r0 : Rd h0 i y l 0 0 := ⟨by rw [hh0, hi]; simp, hy.mod m0 fun _ _ h => h, fun hb => by have := hy.lt i hb; omega, hl, by omega, by omega⟩
  have hlt := r0.lt
  obtain ⟨h1, h2, hb⟩ := rByte_lt l 0 0 99
  have h1 := h1 r0.le
  have h2 := h2 r0.small
  have q1 := byteQ r0 r0.le r0.small (most := 99) (by omega)
  unfold rRep
  generalize rByte l 0 0 99 = D1 at *
  obtain ⟨n1, a1, b1⟩ := D1
  simp only at h1 h2 hb q1 ⊢
  obtain ⟨_, h3, h4, _⟩ := rNum_lt l a1 b1 18446744073709551615
  have h3 := h3 h1
  have h4 := h4 h2
  have q2 := numQ r0 h1 h2 (most := 18446744073709551615) (by omega)
  generalize rNum l a1 b1 18446744073709551615 = D2 at *
  obtain ⟨n2, a2, b2⟩ := D2
  simp only at h3 h4 q2 ⊢
  obtain ⟨g3, q3, s3⟩ := spec80 ((r0.set h3 h4).app [⟨.var, [.int .i64 n1, .int .u64 n2, .int .i64 0, .int .u64 0, .int .i64 0]⟩])
  generalize rDec l a2 b2 = D3 at *
  obtain ⟨⟨u, n3, n4⟩, a3, b3⟩ := D3
  simp only at q3 s3 ⊢
  have k0 : g3[h0.length]? = some ⟨.var, [.int .i64 n1, .int .u64 n2, .int .i64 0, .int .u64 0, .int .i64 0]⟩ := s3.mod.get (getR0 _) (by omega)
  have k1 : g3[h.length]? = some ⟨.var, [.int .i64 0, .int .u64 0, .int .i64 0, .int .u64 0, .int .i64 0]⟩ := s3.mod.get (by
    rw [List.getElem?_append_left (by rw [setR_length]; omega)]
    exact (setR_mod h0 i y a2 b2).get g0 (by omega)) (by omega)
  obtain ⟨B4, hB4⟩ : ∃ B4 : Blk, B4 = ⟨.var, [.int .i64 n1, .int .u64 n2, .int .i64 u, .int .u64 n3, .int .i64 n4]⟩ := ⟨_, rfl⟩
  have m4 : Mod (fun j => j = h0.length) g3 (g3.set h0.length B4) := Mod.set _ _ rfl
  have r4 := s3.rd.beside m4 (by omega) fun j hj e => by
    have := r0.row.lt j hj
    omega
  have q4 := spec81 r4
  have k4 : (g3.set h0.length B4)[h0.length]? = some B4 := get_set_same k0
  have k5 : (g3.set h0.length B4)[h.length]? = some ⟨.var, [.int .i64 0, .int .u64 0, .int .i64 0, .int .u64 0, .int .i64 0]⟩ := m4.get k1 (by omega)
  have k6 : ∀ B : Blk, ((g3.set h0.length B4).set h.length B)[h.length]? = some B := fun B => get_set_same k5
  have hmod : ∀ B : Blk, B.k = .var ∧ B.c.length = 5 → Mod (fun _ => False) h ((g3.set h0.length B4).set h.length B) := fun B hB => by
    have hle := m0.1
    have x1 : Mod (fun j => j = i ∨ j = h0.length ∨ j = h.length) h0 (setR h0 i y a2 b2) := (setR_mod h0 i y a2 b2).mono fun j _ e => .inl e
    have x2 : Mod (fun j => j = i ∨ j = h0.length ∨ j = h.length) _ (setR h0 i y a2 b2 ++ [⟨.var, [.int .i64 n1, .int .u64 n2, .int .i64 0, .int .u64 0, .int .i64 0]⟩]) := Mod.app _ _ _
    have x3 := s3.mod.mono (S' := fun j => j = i ∨ j = h0.length ∨ j = h.length) fun j _ e => .inl e
    have x4 := m4.mono (S' := fun j => j = i ∨ j = h0.length ∨ j = h.length) fun j _ e => .inr (.inl e)
    have x5 : Mod (fun j => j = i ∨ j = h0.length ∨ j = h.length) (g3.set h0.length B4) ((g3.set h0.length B4).set h.length B) := Mod.set _ _ (.inr (.inr rfl))
    exact m0.trans ((((x1.trans x2 fun _ _ h => h).trans x3 fun _ _ h => h).trans x4 fun _ _ h => h).trans x5 fun _ _ h => h) fun j hj hs => by
      rcases hs with e | e | e <;> omega
  rw [r0.same] at q1
  have w1 := wi64n hb
  have z1 : ((99 : Nat) : Int) = 99 := rfl
  have z2 : ((18446744073709551615 : Nat) : Int) = 18446744073709551615 := rfl
  rw [z1] at q1
  rw [z2] at q2
  subst hB4
  by_cases c1 : rEnd l a3 b3 = 0
  · rw [if_pos c1, c1]
    rw [c1] at q4
    refine ⟨_, callX (hh := trim h ((g3.set h0.length ⟨.var, [.int .i64 n1, .int .u64 n2, .int .i64 u, .int .u64 n3, .int .i64 n4]⟩).set h.length ⟨.var, [.int .i64 n1, .int .u64 n2, .int .i64 u, .int .u64 n3, .int .i64 n4]⟩) [.agg [.int .i64 n1, .int .u64 n2, .int .i64 u, .int .u64 n3, .int .i64 n4], .sc (.int .i64 0)]) rfl (by rfl : F 33 = some M.a33) (fun R RO RD RT E => ?_), trim_mod' (hmod _ ⟨rfl, rfl⟩)⟩
    simp [M.a33, E.eqs, ← hh0, ← hi, fldA, freshB, loadA, storeA, q1, q2, q3, q4, w1, getR0, getR, putR0, putR, k0, k4, k5, k6]
  · rw [if_neg c1]
    have c2 : ¬ ((rEnd l a3 b3 : Nat) : Int) = 0 := by omega
    refine ⟨_, callX (hh := trim h ((g3.set h0.length ⟨.var, [.int .i64 n1, .int .u64 n2, .int .i64 u, .int .u64 n3, .int .i64 n4]⟩).set h.length ⟨.var, [.int .i64 0, .int .u64 0, .int .i64 0, .int .u64 0, .int .i64 0]⟩) [.agg [.int .i64 0, .int .u64 0, .int .i64 0, .int .u64 0, .int .i64 0], .sc (.int .i64 (rEnd l a3 b3 : Nat))]) rfl (by rfl : F 33 = some M.a33) (fun R RO RD RT E => ?_), trim_mod' (hmod _ ⟨rfl, rfl⟩)⟩
    generalize rEnd l a3 b3 = e at *
    simp [M.a33, E.eqs, ← hh0, ← hi, fldA, freshB, loadA, storeA, q1, q2, q3, q4, c1, c2, w1, getR0, getR, putR0, putR, k0, k4, k5, k6]
end
end Go.Proofs.Ytoghoddofokekaa
