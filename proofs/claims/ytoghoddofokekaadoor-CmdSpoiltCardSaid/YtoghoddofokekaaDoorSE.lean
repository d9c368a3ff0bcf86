/- Chapter 1: the document's Text; NewReader. -/
import Derived.Test.YtoghoddofokekaaDoorSD
set_option linter.unusedVariables false
set_option linter.unusedSimpArgs false
set_option maxRecDepth 100000
namespace Go.Proofs.YtoghoddofokekaaDoor
open Go.Abs

section
variable {h : Heap} {i : Nat} {x : SV} {l : List UInt8} {a bad : Nat}

end

theorem spec33 {h : Heap} {y : SV} {l : List UInt8} (hy : Row h y 1 l.length (Go.Abs.bytes l)) (hl : l.length ≤ 2 ^ 40) :
    call 33 [[.sc y]] h = some ([.sc (.ptr (h.length + 1) 0 3)], h ++ [⟨.row 5 1, Go.Abs.bytes l⟩, ⟨.var, [.sl h.length 0 l.length l.length, .int .i64 0, .int .i64 0]⟩]) ∧
    Rd (h ++ [⟨.row 5 1, Go.Abs.bytes l⟩, ⟨.var, [.sl h.length 0 l.length l.length, .int .i64 0, .int .i64 0]⟩]) (h.length + 1) (.sl h.length 0 l.length l.length) l 0 0 := by
  have a1 := copy_app hy (by omega)
  refine ⟨callX rfl (by rfl : F 33 = some M.a33) (fun R RO RD RT E => ?_), ⟨by simp, ?_, ?_, hl, by omega, by omega⟩⟩
  · simp [M.a33, E.eqs, a1]
    simp [trim, pureT, pureV, pureS]
  · exact .inr ⟨h.length, 0, l.length, _, rfl, get_loc0 h _, by simp [bytes_length], by omega, rfl, by simp [← bytes_length l]⟩
  · intro hb
    have : h.length + 1 = h.length := hb
    omega
end Go.Proofs.YtoghoddofokekaaDoor
