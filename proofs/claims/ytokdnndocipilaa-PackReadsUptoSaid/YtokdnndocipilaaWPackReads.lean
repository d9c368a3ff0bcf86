/- PackReads: the law's call says true, of any bytes and asks. -/
import Derived.Test.YtokdnndocipilaaSG
import Derived.Test.YtokdnndocipilaaY3
set_option linter.unusedVariables false
set_option linter.unusedSimpArgs false
set_option maxRecDepth 100000
namespace Go.Proofs.Ytokdnndocipilaa.lawPackReads
open Go.Abs

theorem core {H : Type} (h : Heap) (tvs : List TV) (ds : List (DataW H)) (hr : AllRo h) (hi : Ins Try.prog h 6 [23, 47] tvs ds) (hb : Rows.uptoBulkAll ds ≤ 1048576) : ∃ h', callE F O 6 tvs h = some ([.sc (.bool true)], h') := by
  obtain ⟨tv, d, tvs, ds, rfl, rfl, h1, hi⟩ := ins_cons hi
  obtain ⟨tv2, d2, rfl, rfl, h2⟩ := ins_one hi
  obtain ⟨x, l, rfl, hx, hl⟩ := in_bytes h1
  obtain ⟨y, q, rfl, hy, hq, hql⟩ := in_asks h2
  simp only [Rows.uptoBulkAll] at hb
  have kn := spec13 h
  obtain ⟨g, e1⟩ := spec29 hx hy (by omega) hq (by omega)
  refine ⟨_, callX (hh := trim h g [.sc (.bool true)]) rfl (by rfl : F 6 = some M.a6) (fun R RO RD RT E => ?_)⟩
  simp [M.a6, E.eqs, kn, e1]
end Go.Proofs.Ytokdnndocipilaa.lawPackReads
