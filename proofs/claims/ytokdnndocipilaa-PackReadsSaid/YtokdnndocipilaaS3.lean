/- Chapter 1: Int, Text, Bytes of a writer; ref1's Text; NewWriter; Pick. -/
import Derived.Test.YtokdnndocipilaaS2
set_option linter.unusedVariables false
set_option linter.unusedSimpArgs false
set_option maxRecDepth 100000
namespace Go.Proofs.Ytokdnndocipilaa
open Go.Abs

theorem ofInt_toNat {a : Int} (h0 : 0 ≤ a) (h1 : a < 18446744073709551616) : (BitVec.ofInt 64 a).toNat = a.toNat := by
  rw [BitVec.toNat_ofInt]
  omega

theorem zz_xor {n : Int} (h1 : -9223372036854775808 ≤ n) (h2 : n < 9223372036854775808) : bitop .xor .u64 (IntKind.u64.wrap (IntKind.u64.wrap n * 2)) (IntKind.u64.wrap (n.fdiv 9223372036854775808)) = (zz n : Int) := by
  rw [Int.fdiv_eq_ediv_of_nonneg _ (by omega)]
  by_cases hn : n < 0
  · have e1 : n / 9223372036854775808 = -1 := by omega
    have e2 : IntKind.u64.wrap (-1) = 18446744073709551615 := by rw [wu64']; rfl
    have e3 : IntKind.u64.wrap (IntKind.u64.wrap n * 2) = 18446744073709551616 + 2 * n := by rw [wu64', wu64']; omega
    rw [e1, e2, e3]
    have e4 : BitVec.ofInt 64 18446744073709551615 = BitVec.allOnes 64 := by decide
    simp only [bitop]
    rw [show (IntKind.u64.bits) = 64 from rfl, e4, BitVec.xor_allOnes, BitVec.toNat_not, ofInt_toNat (by omega) (by omega), wu64']
    unfold zz
    rw [if_pos hn]
    omega
  · have e1 : n / 9223372036854775808 = 0 := by omega
    have e2 : IntKind.u64.wrap 0 = 0 := by rw [wu64']; rfl
    have e3 : IntKind.u64.wrap (IntKind.u64.wrap n * 2) = 2 * n := by rw [wu64', wu64']; omega
    rw [e1, e2, e3]
    have e4 : BitVec.ofInt 64 0 = 0#64 := by decide
    simp only [bitop]
    rw [show (IntKind.u64.bits) = 64 from rfl, e4, BitVec.xor_zero, ofInt_toNat (by omega) (by omega), wu64']
    unfold zz
    rw [if_neg hn]
    omega

theorem zz_lt {n : Int} (h1 : -9223372036854775808 ≤ n) (h2 : n < 9223372036854775808) : zz n < 2 ^ 64 := by unfold zz; split <;> omega

theorem spec18 {h : Heap} {i : Nat} {l : List UInt8} {n : Int} (h1 : -9223372036854775808 ≤ n) (h2 : n < 9223372036854775808) (w : Wr h i l) (hl : l.length ≤ 140737488352256) : ∃ h', call 18 [[.sc (.ptr i 0 1)], [.sc (.int .i64 n)]] h = some ([], h') ∧ WStep h i l h' (numB (zz n)) := by
  obtain ⟨h', e1, st⟩ := spec16 (zz_lt h1 h2) w hl
  have zx := zz_xor h1 h2
  have s1 : shAmt .u64 1 = 1 := rfl
  have s2 : shAmt .i64 63 = 63 := rfl
  refine ⟨_, callE_of (x := .normal) (e := []) (h' := h') rfl (by rfl : F 18 = some M.a18) (by
    simp [M.a18, s1, s2, zx, e1]) (.inl rfl) rfl, st.trim w []⟩

theorem spec12 (h : Heap) : call 12 [] h = some ([.sc (.ptr h.length 0 1)], h ++ [⟨.var, [.nils]⟩]) := by
  have := callE_of (F := F) (O := O) (f := 12) (args := []) (h := h) (x := .ret) (e := [(0, [.sc (.ptr h.length 0 1)])]) (h' := h ++ [⟨.var, [.nils]⟩]) rfl (by rfl : F 12 = some M.a12) (by simp [M.a12]) (.inr rfl) rfl
  refine this.trans ?_
  simp [trim, pureT, pureV, pureS]

theorem wr_new (h : Heap) : Wr (h ++ [⟨.var, [.nils]⟩]) h.length [] := ⟨.nils, by simp, own_nils _, fun h => h⟩

theorem row_lt {h : Heap} {y : SV} {t : List UInt8} (hy : Row h y 1 t.length (Go.Abs.bytes t)) : ∀ j, blk y j → j < h.length := hy.lt

theorem spec20 {h : Heap} {i : Nat} {l t : List UInt8} {y : SV} (w : Wr h i l) (hl : l.length ≤ 2 ^ 38) (hy : Row h y 1 t.length (Go.Abs.bytes t)) (ht : t.length ≤ 2 ^ 38) (hd : ∀ j, blk y j → ¬ wset h i j) :
    ∃ h', call 20 [[.sc (.ptr i 0 1)], [.sc y]] h = some ([], h') ∧ WStep h i l h' (numB t.length ++ t) := by
  have hlen := numB_length 10 t.length (by omega) (by omega)
  obtain ⟨h1, e1, st⟩ := spec16 (n := t.length) (by omega) w (by omega)
  have hy1 := hy.mod st.mod hd
  obtain ⟨x, hi, hx, hdx⟩ := st.wr
  obtain ⟨a1, i1, st2⟩ := wr_app hi hx hdx (srcOf_row hy1) (by simp [lim]; omega)
  have f0 : freshB h1 i 1 = true := freshB_of hi rfl
  have f1 := freshB_of i1 (e := 1) rfl
  have ln := lenA_row hy
  have wn : IntKind.u64.wrap (t.length : Int) = t.length := wu64 (by omega) (by omega)
  refine ⟨_, callE_of (x := .normal) (e := []) (h' := (appH h1 x 5 1 t.length (Go.Abs.bytes t)).set i ⟨.var, [appV h1 x 1 t.length]⟩) rfl (by rfl : F 20 = some M.a20) (by
    simp [M.a20, ln, wn, e1, nilckA, fldA, loadA, storeA, f0, f1, hi, i1, a1]) (.inl rfl) rfl, (st.trans st2).trim w []⟩

theorem spec21 {h : Heap} {t : List UInt8} {y : SV} (hy : Row h y 1 t.length (Go.Abs.bytes t)) (ht : t.length ≤ 2 ^ 38) : ∃ h' z, call 21 [[.sc y]] h = some ([.sc z], h') ∧ Fresh h h' z (numB t.length ++ t) := by
  have hlen := numB_length 10 t.length (by omega) (by omega)
  obtain ⟨h1, x, e1, fr⟩ := spec17 h (n := t.length) (by omega)
  have hy1 := hy.mod fr.mod fun _ _ h => h
  obtain ⟨a1, st⟩ := own_app fr.own (srcOf_row hy1) (by simp [lim]; omega)
  have ln := lenA_row hy
  have wn : IntKind.u64.wrap (t.length : Int) = t.length := wu64 (by omega) (by omega)
  have fr2 : Fresh h (appH h1 x 5 1 t.length (Go.Abs.bytes t)) (appV h1 x 1 t.length) (numB t.length ++ t) :=
    ⟨st.own, fr.mod.trans st.mod fun j hj hb => absurd (fr.new j hb) (by omega), fun j hj => by
      rcases st.new j hj with h2 | h2
      · exact fr.new j h2
      · exact Nat.le_trans fr.mod.1 h2⟩
  refine ⟨_, _, callE_of (x := .ret) (e := [(2, [.sc (appV h1 x 1 t.length)])]) (h' := appH h1 x 5 1 t.length (Go.Abs.bytes t)) rfl (by rfl : F 21 = some M.a21) (by
    simp [M.a21, ln, wn, e1, a1]) (.inr rfl) rfl, fr2.trim⟩
end Go.Proofs.Ytokdnndocipilaa
