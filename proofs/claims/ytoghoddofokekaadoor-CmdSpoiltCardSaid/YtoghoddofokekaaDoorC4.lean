/- Chapter 5: replies, read. -/
import Derived.Test.YtoghoddofokekaaDoorC3
set_option linter.unusedVariables false
set_option linter.unusedSimpArgs false
set_option maxRecDepth 100000
namespace Go.Proofs.YtoghoddofokekaaDoor
open Go.Abs

/-- a reply's cells, and what is wrong -/
def rRep (l : List UInt8) : List SV × Nat :=
  let r1 := rByte l 0 0 99
  let r2 := rNum l r1.2.1 r1.2.2 18446744073709551615
  let r3 := rDec l r2.2.1 r2.2.2
  let e := rEnd l r3.2.1 r3.2.2
  (if e = 0 then [.int .i64 r1.1, .int .u64 r2.1, .int .i64 r3.1.1, .int .u64 r3.1.2.1, .int .i64 r3.1.2.2] else [.int .i64 0, .int .u64 0, .int .i64 0, .int .u64 0, .int .i64 0], e)

theorem Mod.old {h h' : Heap} (m : Mod (fun j => h.length ≤ j) h h') : Mod (fun _ => False) h h' := ⟨m.1, fun j hj _ => m.2 j hj (by omega)⟩

section
variable {h : Heap} {y : SV} {l : List UInt8}

end
end Go.Proofs.YtoghoddofokekaaDoor
