/- Chapter 1: the document's Unseal; sums, seals and what is unsealed of any bytes (PackSums). -/
import Derived.Test.YtokdnndocipilaaS5
set_option linter.unusedVariables false
set_option linter.unusedSimpArgs false
set_option maxRecDepth 100000
namespace Go.Proofs.Ytokdnndocipilaa
open Go.Abs

theorem four_of {l : List UInt8} (h : 4 ≤ l.length) : ∃ a b c d, l.drop (l.length - 4) = [a, b, c, d] ∧ l[l.length - 4]? = some a ∧ l[l.length - 4 + 1]? = some b ∧ l[l.length - 4 + 2]? = some c ∧ l[l.length - 4 + 3]? = some d := by
  have hl : (l.drop (l.length - 4)).length = 4 := by simp; omega
  match hd : l.drop (l.length - 4), hl with
  | [a, b, c, d], _ =>
    have g : ∀ i, l[l.length - 4 + i]? = [a, b, c, d][i]? := fun i => by rw [← hd, List.getElem?_drop]
    exact ⟨a, b, c, d, rfl, by simpa using g 0, by simpa using g 1, by simpa using g 2, by simpa using g 3⟩

theorem byte_at {h : Heap} {y : SV} {l : List UInt8} (hy : Row h y 1 l.length (Go.Abs.bytes l)) {i : Nat} {a : UInt8} (ha : l[i]? = some a) : ixsA h 1 [.sc y] (some i) = some ([.sc (elemP y 1 i)], h) ∧ loadA h false 1 [.sc (elemP y 1 i)] = some ([.sc (.int .u8 a.toNat)], h) := by
  have hlt : i < l.length := (List.getElem?_eq_some_iff.1 ha).1
  exact ⟨ixsA_row hy hlt, loadA_row hy hlt (ag := false) (by omega) (by rw [Nat.mul_one, bytes_get, ha]; rfl) (by omega)⟩

theorem u8_ne {a b : UInt8} (h : ¬ a = b) : ((a.toNat : Int) != b.toNat) = true := by simp only [bne_iff_ne]; exact fun e => h (UInt8.toNat_inj.1 (by omega))

theorem spec24 {h : Heap} {y : SV} {l : List UInt8} (hy : Row h y 1 l.length (Go.Abs.bytes l)) (hl : l.length ≤ 140737488353280) : ∃ h' z, call 24 [[.sc y]] h = some ([.sc z, .sc (.int .i64 (unE l))], h') ∧ Fresh h h' z (unB l) := by
  have ln := lenA_row hy
  by_cases h4 : l.length < 4
  · have hE : unE l = 10 := by unfold unE; rw [if_pos h4]
    have hB : unB l = [] := by unfold unB; rw [hE]; rfl
    rw [hE, hB]
    have c1 : (l.length : Int) < 4 := by omega
    refine ⟨h, .nils, ?_, Fresh.nils (Mod.refl _ _)⟩
    have := callM (F := F) (O := O) (f := 24) (args := [[.sc y]]) (h := h) (x := .ret) (e := [(2, [.sc .nils]), (3, [.sc (.int .i64 10)])]) (h' := h) rfl (by rfl : F 24 = some M.a24) (fun R RO RD RT E => by
      simp [M.a24, E.eqs, ln, c1]) (.inr rfl) rfl
    exact this.trans (by rw [trim_self]; rfl)
  · obtain ⟨a, b, c, d, hdr, g0, g1, g2, g3⟩ := four_of (l := l) (by omega)
    obtain ⟨n, hn⟩ : ∃ n, n = l.length - 4 := ⟨_, rfl⟩
    rw [← hn] at hdr g0 g1 g2 g3
    have hnl : n ≤ l.length := by omega
    have c1 : ¬ (l.length : Int) < 4 := by omega
    have w1 : IntKind.i64.wrap ((l.length : Int) - 4) = n := by rw [wi64 (by omega) (by omega)]; omega
    have v1 : IntKind.i64.wrap ((n : Int) + 1) = ((n + 1 : Nat) : Int) := by rw [wi64 (by omega) (by omega)]; omega
    have v2 : IntKind.i64.wrap ((n : Int) + 2) = ((n + 2 : Nat) : Int) := by rw [wi64 (by omega) (by omega)]; omega
    have v3 : IntKind.i64.wrap ((n : Int) + 3) = ((n + 3 : Nat) : Int) := by rw [wi64 (by omega) (by omega)]; omega
    have cf := cut_front hy hnl
    have htl : (l.take n).length = n := by simp; omega
    have sl : ∀ {lo hi : Nat → Option Nat}, lo 0 = some 0 → hi l.length = some n → slcA h 1 [.sc y] lo hi = some ([.sc (cutS y 1 0 n)], h) := fun a b => slc_front hy hnl a b
    have s1 := spec27 cf (by omega)
    obtain ⟨i0, l0⟩ := byte_at hy g0
    obtain ⟨i1, l1⟩ := byte_at hy g1
    obtain ⟨i2, l2⟩ := byte_at hy g2
    obtain ⟨i3, l3⟩ := byte_at hy g3
    have k0 : ((n : Int) + 1).toNat = n + 1 := by omega
    have k1 : ((n : Int) + 2).toNat = n + 2 := by omega
    have k2 : ((n : Int) + 3).toNat = n + 3 := by omega
    have p1 : (0 : Int) ≤ (n : Int) + 1 := by omega
    have p2 : (0 : Int) ≤ (n : Int) + 2 := by omega
    have p3 : (0 : Int) ≤ (n : Int) + 3 := by omega
    have b0 := le_b0 (sumB (l.take n))
    have b1 := le_b1 (sumB (l.take n))
    have b2 := le_b2 (sumB (l.take n))
    have b3 := le_b3 (sumB (l.take n))
    have hle : le4 (sumB (l.take n)) = [UInt8.ofNat (sumB (l.take n)), UInt8.ofNat (sumB (l.take n) / 256), UInt8.ofNat (sumB (l.take n) / 65536), UInt8.ofNat (sumB (l.take n) / 16777216)] := rfl
    generalize UInt8.ofNat (sumB (l.take n)) = c0 at *
    generalize UInt8.ofNat (sumB (l.take n) / 256) = c1' at *
    generalize UInt8.ofNat (sumB (l.take n) / 65536) = c2 at *
    generalize UInt8.ofNat (sumB (l.take n) / 16777216) = c3 at *
    by_cases heq : l.drop n = le4 (sumB (l.take n))
    · have hE : unE l = 0 := by unfold unE; rw [if_neg h4, ← hn, if_pos heq]
      have hB : unB l = l.take n := by unfold unB; rw [hE, ← hn]; rfl
      rw [hE, hB]
      rw [hdr, hle] at heq
      simp only [List.cons.injEq, and_true] at heq
      obtain ⟨q0, q1, q2, q3⟩ := heq
      rw [← q0] at b0
      rw [← q1] at b1
      rw [← q2] at b2
      rw [← q3] at b3
      have sl1 : ∀ {lo hi : Nat → Option Nat}, lo 0 = some 0 → hi l.length = some n → slcA (h ++ [⟨.row 5 1, []⟩]) 1 [.sc y] lo hi = some ([.sc (cutS y 1 0 n)], h ++ [⟨.row 5 1, []⟩]) := fun a b =>
        slc_front (hy.mod (Mod.app (fun _ => False) _ _) fun _ _ h => h) hnl a b
      have a1 := copy_app cf (by omega)
      have cp := copy_fresh h (l.take n)
      rw [htl] at a1 cp
      refine ⟨_, _, callM (x := .ret) (e := [(2, [.sc (.sl h.length 0 n n)]), (3, [.sc (.int .i64 0)])]) (h' := h ++ [⟨.row 5 1, Go.Abs.bytes (l.take n)⟩]) rfl (by rfl : F 24 = some M.a24) (fun R RO RD RT E => by
        simp [M.a24, E.eqs, ln, c1, w1, sl, sl1, s1, v1, v2, v3, k0, k1, k2, p1, p2, p3, i0, l0, i1, l1, i2, l2, i3, l3, shAmt, IntKind.bits, b0, b1, b2, b3, a1]) (.inr rfl) rfl, ?_⟩
      unfold Go.Abs.trim
      simpa [pureT, pureV, pureS] using cp
    · have hE : unE l = 13 := by unfold unE; rw [if_neg h4, ← hn, if_neg heq]
      have hB : unB l = [] := by unfold unB; rw [hE]; rfl
      rw [hE, hB]
      rw [hdr, hle] at heq
      simp only [List.cons.injEq, and_true] at heq
      refine ⟨h, .nils, ?_, Fresh.nils (Mod.refl _ _)⟩
      have := callM (F := F) (O := O) (f := 24) (args := [[.sc y]]) (h := h) (x := .ret) (e := [(2, [.sc .nils]), (3, [.sc (.int .i64 13)])]) (h' := h) rfl (by rfl : F 24 = some M.a24) (fun R RO RD RT E => by
        by_cases q0 : a = c0
        · rw [← q0] at b0
          by_cases q1 : b = c1'
          · rw [← q1] at b1
            by_cases q2 : c = c2
            · rw [← q2] at b2
              have q3 : ¬ d = c3 := fun q3 => heq ⟨q0, q1, q2, q3⟩
              have q3 := u8_ne q3
              simp [M.a24, E.eqs, ln, c1, w1, sl, s1, v1, v2, v3, k0, k1, k2, p1, p2, p3, i0, l0, i1, l1, i2, l2, i3, l3, shAmt, IntKind.bits, b0, b1, b2, b3, q3]
            · have q2 := u8_ne q2
              simp [M.a24, E.eqs, ln, c1, w1, sl, s1, v1, v2, v3, k0, k1, k2, p1, p2, p3, i0, l0, i1, l1, i2, l2, i3, l3, shAmt, IntKind.bits, b0, b1, b2, b3, q2]
          · have q1 := u8_ne q1
            simp [M.a24, E.eqs, ln, c1, w1, sl, s1, v1, v2, v3, k0, k1, k2, p1, p2, p3, i0, l0, i1, l1, i2, l2, i3, l3, shAmt, IntKind.bits, b0, b1, b2, b3, q1]
        · have q0 := u8_ne q0
          simp [M.a24, E.eqs, ln, c1, w1, sl, s1, v1, v2, v3, k0, k1, k2, p1, p2, p3, i0, l0, i1, l1, i2, l2, i3, l3, shAmt, IntKind.bits, b0, b1, b2, b3, q0]) (.inr rfl) rfl
      exact this.trans (by rw [trim_self]; rfl)
end Go.Proofs.Ytokdnndocipilaa
