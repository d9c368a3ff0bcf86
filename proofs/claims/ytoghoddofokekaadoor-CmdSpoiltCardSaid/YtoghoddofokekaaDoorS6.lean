/- Chapter 1: the document's Unseal; sums, seals and what is unsealed of any bytes (PackSums). -/
import Derived.Test.YtoghoddofokekaaDoorS5
set_option linter.unusedVariables false
set_option linter.unusedSimpArgs false
set_option maxRecDepth 100000
namespace Go.Proofs.YtoghoddofokekaaDoor
open Go.Abs

theorem four_of {l : List UInt8} (h : 4 ≤ l.length) : ∃ a b c d, l.drop (l.length - 4) = [a, b, c, d] ∧ l[l.length - 4]? = some a ∧ l[l.length - 4 + 1]? = some b ∧ l[l.length - 4 + 2]? = some c ∧ l[l.length - 4 + 3]? = some d := by
  have hl : (l.drop (l.length - 4)).length = 4 := by simp; omega
  match hd : l.drop (l.length - 4), hl with
  | [a, b, c, d], _ =>
    have g : ∀ i, l[l.length - 4 + i]? = [a, b, c, d][i]? := fun i => by rw [← hd, List.getElem?_drop]
    exact ⟨a, b, c, d, rfl, by simpa using g 0, by simpa using g 1, by simpa using g 2, by simpa using g 3⟩

theorem byte_at {h : Heap} {y : SV} {l : List UInt8} (hy : Row h y 1 l.length (Go.Abs.bytes l)) {i : Nat} {a : UInt8} (ha : l[i]? = some a) : ixsA h 1 [.sc y] (some i) = some ([.sc (elemP y 1 i)], h) ∧ loadA h false 1 [.sc (elemP y 1 i)] = some ([.sc (.int .u8 a.toNat)], h) := by
  have hlt : i < l.length := (List.getElem?_eq_some_iff.1 ha).1
  exact ⟨ixsA_row hy hlt, loadA_row hy hlt (ag := false) (by omega) (by rw [Nat.mul_one, bytes_get, ha]; rfl) (by omega)⟩

theorem u8_ne {a b : UInt8} (h : ¬ a = b) : ((a.toNat : Int) != b.toNat) = true := by simp only [bne_iff_ne]; exact fun e => h (UInt8.toNat_inj.1 (by omega))

end Go.Proofs.YtoghoddofokekaaDoor
