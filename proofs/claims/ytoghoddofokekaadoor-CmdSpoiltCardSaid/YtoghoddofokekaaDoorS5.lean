/- Chapter 1: copies, seals and what is unsealed. -/
import Derived.Test.YtoghoddofokekaaDoorS4
set_option linter.unusedVariables false
set_option linter.unusedSimpArgs false
set_option maxRecDepth 100000
namespace Go.Proofs.YtoghoddofokekaaDoor
open Go.Abs

theorem copy_app {h : Heap} {y : SV} {l : List UInt8} (hy : Row h y 1 l.length (Go.Abs.bytes l)) (hl : l.length ≤ 2 ^ 41) :
    appA (h ++ [⟨.row 5 1, []⟩]) 5 1 1 (.sc (.sl h.length 0 0 0)) (.sc y) = some ([.sc (.sl h.length 0 l.length l.length)], h ++ [⟨.row 5 1, Go.Abs.bytes l⟩]) := by
  have hy1 := srcOf_row (hy.mod (Mod.app (fun _ => False) h [⟨.row 5 1, []⟩]) fun _ _ h => h)
  have hlim : l.length ≤ lim := by simp [lim]; omega
  simp [appA, hy1, hlim]

theorem copy_fresh (h : Heap) (l : List UInt8) : Fresh h (h ++ [⟨.row 5 1, Go.Abs.bytes l⟩]) (.sl h.length 0 l.length l.length) l :=
  ⟨by simpa using new_own (h := h) (sz := 1) (n := l.length) (cs := Go.Abs.bytes l) 5 (by simp [bytes_length]), Mod.app _ _ _, fun j hj => by have : j = h.length := hj; omega⟩

theorem Fresh.row {h h' : Heap} {y : SV} {l : List UInt8} (a : Fresh h h' y l) : Row h' y 1 l.length (Go.Abs.bytes l) := a.own.row
theorem Fresh.keep {h h' : Heap} {y z : SV} {l : List UInt8} {n sz : Nat} {cs : List SV} (a : Fresh h h' y l) (hz : Row h z sz n cs) : Row h' z sz n cs := hz.mod a.mod fun _ _ h => h
theorem Fresh.app {h h1 h2 : Heap} {x y : SV} {l m : List UInt8} (a : Fresh h h1 x l) (st : OStep h1 x l h2 y m) : Fresh h h2 y (l ++ m) :=
  ⟨st.own, a.mod.trans st.mod fun j hj hb => absurd (a.new j hb) (by omega), fun j hj => by
    rcases st.new j hj with h2 | h2
    · exact a.new j h2
    · exact Nat.le_trans a.mod.1 h2⟩
theorem Fresh.after {h h1 h2 : Heap} {y : SV} {l : List UInt8} (m : Mod (fun _ => False) h h1) (a : Fresh h1 h2 y l) : Fresh h h2 y l :=
  ⟨a.own, m.trans a.mod fun _ _ h => h, fun j hj => Nat.le_trans m.1 (a.new j hj)⟩
theorem Fresh.nils {h h' : Heap} (m : Mod (fun _ => False) h h') : Fresh h h' .nils [] := ⟨own_nils _, m, fun j hj => hj.elim⟩


theorem spec28 {h : Heap} {i : Nat} {l : List UInt8} (w : Wr h i l) (hl : l.length ≤ 2 ^ 40) : ∃ h' z, call 28 [[.sc (.ptr i 0 1)]] h = some ([.sc z], h') ∧ Fresh h h' z l := by
  obtain ⟨x, hi, hx, hd⟩ := w
  have f0 : freshB h i 1 = true := freshB_of hi rfl
  have hi1 : (h ++ [(⟨.row 5 1, []⟩ : Blk)])[i]? = some ⟨.var, [x]⟩ := by rw [List.getElem?_append_left (lt_of_get hi)]; exact hi
  have f1 : freshB (h ++ [⟨.row 5 1, []⟩]) i 1 = true := freshB_of hi1 rfl
  have a1 := copy_app hx.row (by omega)
  exact ⟨_, _, callE_of (x := .ret) (e := [(2, [.sc (.sl h.length 0 l.length l.length)])]) (h' := h ++ [⟨.row 5 1, Go.Abs.bytes l⟩]) rfl (by rfl : F 28 = some M.a28) (by
    simp [M.a28, nilckA, fldA, loadA, f1, hi1, a1]) (.inr rfl) rfl, (copy_fresh h l).trim⟩

/-- the four bytes of a number, the lowest first -/
def le4 (s : Nat) : List UInt8 := [UInt8.ofNat s, UInt8.ofNat (s / 256), UInt8.ofNat (s / 65536), UInt8.ofNat (s / 16777216)]
def sealB (l : List UInt8) : List UInt8 := l ++ le4 (sumB l)
theorem sealB_length (l : List UInt8) : (sealB l).length = l.length + 4 := by simp [sealB, le4]

theorem le_b0 (s : Nat) : IntKind.u8.wrap (s : Int) = ((UInt8.ofNat s).toNat : Int) := by rw [wu8', UInt8.toNat_ofNat']; omega
theorem le_b1 (s : Nat) : IntKind.u8.wrap ((s : Int).fdiv 256) = ((UInt8.ofNat (s / 256)).toNat : Int) := by rw [wu8', UInt8.toNat_ofNat', Int.fdiv_eq_ediv_of_nonneg _ (by omega)]; omega
theorem le_b2 (s : Nat) : IntKind.u8.wrap ((s : Int).fdiv 65536) = ((UInt8.ofNat (s / 65536)).toNat : Int) := by rw [wu8', UInt8.toNat_ofNat', Int.fdiv_eq_ediv_of_nonneg _ (by omega)]; omega
theorem le_b3 (s : Nat) : IntKind.u8.wrap ((s : Int).fdiv 16777216) = ((UInt8.ofNat (s / 16777216)).toNat : Int) := by rw [wu8', UInt8.toNat_ofNat', Int.fdiv_eq_ediv_of_nonneg _ (by omega)]; omega

theorem own_app4 {h : Heap} {x : SV} {l : List UInt8} (hx : Own h x 5 1 l.length (Go.Abs.bytes l)) (a b c d : UInt8) (hl : l.length + 4 ≤ lim) :
    appA h 5 1 1 (.sc x) (.imm 4 [.int .u8 a.toNat, .int .u8 b.toNat, .int .u8 c.toNat, .int .u8 d.toNat]) = some ([.sc (appV h x 1 4)], appH h x 5 1 4 [.int .u8 a.toNat, .int .u8 b.toNat, .int .u8 c.toNat, .int .u8 d.toNat]) ∧
    OStep h x l (appH h x 5 1 4 [.int .u8 a.toNat, .int .u8 b.toNat, .int .u8 c.toNat, .int .u8 d.toNat]) (appV h x 1 4) [a, b, c, d] :=
  own_app hx (y := .imm 4 [.int .u8 a.toNat, .int .u8 b.toNat, .int .u8 c.toNat, .int .u8 d.toNat]) (m := [a, b, c, d]) rfl (by simpa using hl)

/-- what comes of bytes that are unsealed: the error, the bytes -/
def unE (l : List UInt8) : Nat := if l.length < 4 then 10 else if l.drop (l.length - 4) = le4 (sumB (l.take (l.length - 4))) then 0 else 13
def unB (l : List UInt8) : List UInt8 := if unE l = 0 then l.take (l.length - 4) else []

theorem unE_lt (l : List UInt8) : unE l = 10 ∧ l.length < 4 ∨ unE l = 13 ∨ unE l = 0 ∧ 4 ≤ l.length := by
  unfold unE
  split
  · exact .inl ⟨rfl, by omega⟩
  · split
    · exact .inr (.inr ⟨rfl, by omega⟩)
    · exact .inr (.inl rfl)

theorem cut_front {h : Heap} {y : SV} {l : List UInt8} (hy : Row h y 1 l.length (Go.Abs.bytes l)) {n : Nat} (hn : n ≤ l.length) : Row h (cutS y 1 0 n) 1 (l.take n).length (Go.Abs.bytes (l.take n)) := by
  have := cut_row hy (l := 0) (r := n) (by omega) hn
  simpa [bytes_take, Nat.min_eq_left hn] using this

theorem slc_front {h : Heap} {y : SV} {l : List UInt8} (hy : Row h y 1 l.length (Go.Abs.bytes l)) {n : Nat} (hn : n ≤ l.length) {lo hi : Nat → Option Nat} (hlo : lo 0 = some 0) (hhi : hi l.length = some n) : slcA h 1 [.sc y] lo hi = some ([.sc (cutS y 1 0 n)], h) :=
  slcA_row hy hlo hhi (by omega) hn

end Go.Proofs.YtoghoddofokekaaDoor
