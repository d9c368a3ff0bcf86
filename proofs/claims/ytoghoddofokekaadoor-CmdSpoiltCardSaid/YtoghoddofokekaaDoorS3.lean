/- Chapter 1: Int, Text, Bytes of a writer; ref1's Text; NewWriter; Pick. -/
import Derived.Test.YtoghoddofokekaaDoorS2
set_option linter.unusedVariables false
set_option linter.unusedSimpArgs false
set_option maxRecDepth 100000
namespace Go.Proofs.YtoghoddofokekaaDoor
open Go.Abs

theorem ofInt_toNat {a : Int} (h0 : 0 ≤ a) (h1 : a < 18446744073709551616) : (BitVec.ofInt 64 a).toNat = a.toNat := by
  rw [BitVec.toNat_ofInt]
  omega

theorem zz_xor {n : Int} (h1 : -9223372036854775808 ≤ n) (h2 : n < 9223372036854775808) : bitop .xor .u64 (IntKind.u64.wrap (IntKind.u64.wrap n * 2)) (IntKind.u64.wrap (n.fdiv 9223372036854775808)) = (zz n : Int) := by
  rw [Int.fdiv_eq_ediv_of_nonneg _ (by omega)]
  by_cases hn : n < 0
  · have e1 : n / 9223372036854775808 = -1 := by omega
    have e2 : IntKind.u64.wrap (-1) = 18446744073709551615 := by rw [wu64']; rfl
    have e3 : IntKind.u64.wrap (IntKind.u64.wrap n * 2) = 18446744073709551616 + 2 * n := by rw [wu64', wu64']; omega
    rw [e1, e2, e3]
    have e4 : BitVec.ofInt 64 18446744073709551615 = BitVec.allOnes 64 := by decide
    simp only [bitop]
    rw [show (IntKind.u64.bits) = 64 from rfl, e4, BitVec.xor_allOnes, BitVec.toNat_not, ofInt_toNat (by omega) (by omega), wu64']
    unfold zz
    rw [if_pos hn]
    omega
  · have e1 : n / 9223372036854775808 = 0 := by omega
    have e2 : IntKind.u64.wrap 0 = 0 := by rw [wu64']; rfl
    have e3 : IntKind.u64.wrap (IntKind.u64.wrap n * 2) = 2 * n := by rw [wu64', wu64']; omega
    rw [e1, e2, e3]
    have e4 : BitVec.ofInt 64 0 = 0#64 := by decide
    simp only [bitop]
    rw [show (IntKind.u64.bits) = 64 from rfl, e4, BitVec.xor_zero, ofInt_toNat (by omega) (by omega), wu64']
    unfold zz
    rw [if_neg hn]
    omega

theorem zz_lt {n : Int} (h1 : -9223372036854775808 ≤ n) (h2 : n < 9223372036854775808) : zz n < 2 ^ 64 := by unfold zz; split <;> omega

theorem spec56 {h : Heap} {i : Nat} {l : List UInt8} {n : Int} (h1 : -9223372036854775808 ≤ n) (h2 : n < 9223372036854775808) (w : Wr h i l) (hl : l.length ≤ 2 ^ 39) : ∃ h', call 56 [[.sc (.ptr i 0 1)], [.sc (.int .i64 n)]] h = some ([], h') ∧ WStep h i l h' (numB (zz n)) := by
  obtain ⟨h', e1, st⟩ := spec42 (zz_lt h1 h2) w hl
  have zx := zz_xor h1 h2
  have s1 : shAmt .u64 1 = 1 := rfl
  have s2 : shAmt .i64 63 = 63 := rfl
  refine ⟨_, callE_of (x := .normal) (e := []) (h' := h') rfl (by rfl : F 56 = some M.a56) (by
    simp [M.a56, s1, s2, zx, e1]) (.inl rfl) rfl, st.trim w []⟩

theorem spec25 (h : Heap) : call 25 [] h = some ([.sc (.ptr h.length 0 1)], h ++ [⟨.var, [.nils]⟩]) := by
  have := callE_of (F := F) (O := O) (f := 25) (args := []) (h := h) (x := .ret) (e := [(0, [.sc (.ptr h.length 0 1)])]) (h' := h ++ [⟨.var, [.nils]⟩]) rfl (by rfl : F 25 = some M.a25) (by simp [M.a25]) (.inr rfl) rfl
  refine this.trans ?_
  simp [trim, pureT, pureV, pureS]

theorem wr_new (h : Heap) : Wr (h ++ [⟨.var, [.nils]⟩]) h.length [] := ⟨.nils, by simp, own_nils _, fun h => h⟩

theorem row_lt {h : Heap} {y : SV} {t : List UInt8} (hy : Row h y 1 t.length (Go.Abs.bytes t)) : ∀ j, blk y j → j < h.length := hy.lt

end Go.Proofs.YtoghoddofokekaaDoor
