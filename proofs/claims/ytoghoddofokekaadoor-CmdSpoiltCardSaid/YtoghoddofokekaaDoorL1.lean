/- The listed table, as the machine wants it. -/
import Derived.Test.YtoghoddofokekaaDoorFK
import Derived.Test.YtoghoddofokekaaDoorXI
import Derived.Test.YtoghoddofokekaaDoorRows
import Derived.ProofKit
import Derived.LaidMore
import Derived.OpenShut
import Derived.Stop.Joined
set_option linter.unusedVariables false
set_option linter.unusedSimpArgs false
set_option maxRecDepth 100000
namespace Go.Proofs.YtoghoddofokekaaDoor
open Go.ChangeShapes Go.WideShapes Go.ChangeAt Go.RowKit Go.Abs

theorem gCoins : Tryd.prog.globalNamed "bursar/bursarhand.coins" = some 0 := by kernel_rfl
theorem tCoins : (Tryd.prog.globals[0]?).map (·.type) = some 66 := by kernel_rfl
theorem uCoins : Tryd.prog.underlying 66 = some (.array 3 9) := by kernel_rfl
theorem uText : Tryd.prog.underlying 9 = some .string := by kernel_rfl
abbrev laid1 : List (String × DataW Unit) := [("bursar/bursarhand.coins", Rows.laid_bursar_bursarhand_coins)]

theorem text_of {s : ByteArray} {l : List UInt8} (h : s.data.toList = l) : Value.string s = .string ⟨l.toArray⟩ := by
  subst h
  rw [Array.toArray_toList]

theorem of_laid {W : World} (h : laidMetH Tryd.prog laid1 W) : GW W.heap.size W := by
  rw [MakeChecks.laidMetH_plain _ _ _ (by kernel_rfl)] at h
  obtain ⟨ps, ⟨g0, t0, cs0, f0, p0, q0, hg0, ht0, hv0, hd0, _, _⟩, _, _⟩ := h
  obtain rfl := Option.some.inj (gCoins.symm.trans hg0)
  obtain rfl := Option.some.inj (tCoins.symm.trans ht0)
  obtain ⟨xs, m1, rfl, hx, hlen, hn, hel⟩ := DataW.trod_array uCoins hd0
  have c9 : Tryd.prog.cellsOf 9 = 1 := by kernel_rfl
  have c66 : Tryd.prog.cellsOf 66 = 3 := by kernel_rfl
  rw [c66] at hlen
  have w0 := World.var?_cell hg0 hv0 0
  have w1 := World.var?_cell hg0 hv0 1
  have w2 := World.var?_cell hg0 hv0 2
  have e0 := hel 0 (by decide)
  have e1 := hel 1 (by decide)
  have e2 := hel 2 (by decide)
  rw [c9] at e0 e1 e2
  obtain ⟨l⟩ := cs0
  match l, hlen, xs, hn with
  | [a0, a1, a2], _, [x0, x1, x2], _ =>
    obtain ⟨s0, q0, r0, _⟩ := DataW.trod_string uText (show DataW.trod _ Tryd.prog W 0 _ false m1 9 [a0] = some x0 from e0)
    obtain ⟨s1, q1, r1, _⟩ := DataW.trod_string uText (show DataW.trod _ Tryd.prog W 0 _ false m1 9 [a1] = some x1 from e1)
    obtain ⟨s2, q2, r2, _⟩ := DataW.trod_string uText (show DataW.trod _ Tryd.prog W 0 _ false m1 9 [a2] = some x2 from e2)
    simp only [List.cons.injEq, and_true] at q0 q1 q2
    subst q0 q1 q2 r0 r1 r2
    simp only [Rows.laid_bursar_bursarhand_coins, List.map_cons, List.map_nil, Prod.mk.injEq, DataW.agg.injEq, List.cons.injEq, DataW.lit.injEq, Lit.string.injEq, and_true] at hx
    obtain ⟨⟨z0, z1, z2⟩, _⟩ := hx
    have w0 : W.cell? ⟨0, 0, none⟩ = some (.string s0) := w0
    have w1 : W.cell? ⟨0, 1, none⟩ = some (.string s1) := w1
    have w2 : W.cell? ⟨0, 2, none⟩ = some (.string s2) := w2
    have hpos : 0 < W.heap.size := by
      rcases Nat.eq_zero_or_pos W.heap.size with hz | hz
      · exfalso
        have : W.heap[0]? = none := Array.getElem?_eq_none (by omega)
        simp [World.cell?, this] at w0
      · exact hz
    intro g o s hs
    unfold gText gTab at hs
    simp only [gTexts] at hs
    cases hg : Nat.beq 0 g
    · rw [hg] at hs
      simp at hs
    · have hg := Nat.eq_of_beq_eq_true hg
      subst hg
      simp only [Nat.beq_refl, cond_true] at hs
      refine ⟨hpos, ?_⟩
      rw [cell_add0]
      match o, hs with
      | 0, hs =>
        simp at hs
        rw [w0, text_of z0.symm, hs]
      | 1, hs =>
        simp at hs
        rw [w1, text_of z1.symm, hs]
      | 2, hs =>
        simp at hs
        rw [w2, text_of z2.symm, hs]
      | n + 3, hs => simp at hs

/-- the door's own heap bears it -/
theorem door_met (os : Os) (args : Array Value) : laidMetH Tryd.prog laid1 ((World.doorLaid Tryd.prog 400 os).forCall (fun _ _ => 0) ⟨#[], args, []⟩).memory :=
  laidMetH_of_parts3 (fuel := 8) (laidMet_of_run' 8 (by kernel_rfl) (by kernel_rfl)) (by kernel_rfl) (by kernel_rfl)
end Go.Proofs.YtoghoddofokekaaDoor
