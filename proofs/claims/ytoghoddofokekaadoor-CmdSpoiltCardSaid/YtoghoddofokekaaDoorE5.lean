/- A command that comes in; what the laws call: CmdDecodes of any row, spoilt. -/
import Derived.Test.YtoghoddofokekaaDoorE4
import Derived.Test.YtoghoddofokekaaDoorY1
set_option linter.unusedVariables false
set_option linter.unusedSimpArgs false
set_option maxRecDepth 100000
namespace Go.Proofs.YtoghoddofokekaaDoor
open Go.Abs

/-- a command as it may come in -/
structure Cm.In (c : Cm) : Prop where
  ok : c.Ok
  k1 : -9223372036854775808 ≤ c.k
  k2 : c.k < 9223372036854775808
  s1 : -9223372036854775808 ≤ c.sc
  s2 : c.sc < 9223372036854775808
  hx : c.x.length < 9223372036854775808
  hy : c.y.length < 9223372036854775808

theorem in_cmd {H : Type} {k : Nat} {tv : TV} {d : DataW H} {h : Heap} (hi : In1 Tryd.prog h (k + 5) 28 tv d) : ∃ c : Cm, tv = [.agg c.cells] ∧ c.In := by
  obtain ⟨xs, hv, rfl⟩ := hi
  obtain ⟨parts, rfl, hl, hp, hf⟩ := View.fields (L := [(3, 0, 1), (22, 1, 1), (22, 2, 1), (22, 3, 1), (22, 4, 1), (26, 5, 3), (9, 8, 1), (9, 9, 1)]) (n := 10) (by kernel_rfl) (by kernel_rfl) hv
  have ha : Go.Abs.isAgg Tryd.prog 28 = true := by kernel_rfl
  have ti : Tryd.prog.underlying 3 = some (.int .i64) := by kernel_rfl
  have tu : Tryd.prog.underlying 22 = some (.int .u64) := by kernel_rfl
  have ts : Tryd.prog.underlying 9 = some .string := by kernel_rfl
  match xs, hl, parts, hp with
  | [x0, x1, x2, x3, x4, x5, x6, x7, x8, x9], _, [p0, p1, p2, p3, p4, p5, p6, p7], _ =>
    obtain ⟨a0, e0, b0, _⟩ := View.int ti (hf 0 _ _ rfl rfl)
    obtain ⟨a1, e1, b1, _⟩ := View.int tu (hf 1 _ _ rfl rfl)
    obtain ⟨a2, e2, b2, _⟩ := View.int tu (hf 2 _ _ rfl rfl)
    obtain ⟨a3, e3, b3, _⟩ := View.int tu (hf 3 _ _ rfl rfl)
    obtain ⟨a4, e4, b4, _⟩ := View.int tu (hf 4 _ _ rfl rfl)
    have f5 : View Tryd.prog h (k + 3 + 1) 26 [x5, x6, x7] p5 := hf 5 _ _ rfl rfl
    obtain ⟨a8, e8, b8, _⟩ := View.string ts (hf 6 _ _ rfl rfl)
    obtain ⟨a9, e9, b9, _⟩ := View.string ts (hf 7 _ _ rfl rfl)
    obtain ⟨parts2, rfl, hl2, hp2, hf2⟩ := View.fields (L := [(24, 0, 2), (3, 2, 1)]) (n := 3) (by kernel_rfl) (by kernel_rfl) f5
    match parts2, hp2 with
    | [r0, r1], _ =>
      have f3 : View Tryd.prog h (k + 2 + 1) 24 [x5, x6] r0 := hf2 0 _ _ rfl rfl
      obtain ⟨a7, e7, b7, _⟩ := View.int ti (hf2 1 _ _ rfl rfl)
      obtain ⟨parts3, rfl, hl3, hp3, hf3⟩ := View.fields (L := [(2, 0, 1), (22, 1, 1)]) (n := 2) (by kernel_rfl) (by kernel_rfl) f3
      match parts3, hp3 with
      | [u0, u1], _ =>
        obtain ⟨a5, e5, b5, _⟩ := View.int (by kernel_rfl : Tryd.prog.underlying 2 = some (.int .i64)) (hf3 0 _ _ rfl rfl)
        obtain ⟨a6, e6, b6, _⟩ := View.int tu (hf3 1 _ _ rfl rfl)
        simp at e0 e1 e2 e3 e4 e5 e6 e7 e8 e9
        subst e0 e1 e2 e3 e4 e5 e6 e7 e8 e9
        have b0 := wf_i64 b0
        have b1 := wf_u64 b1
        have b2 := wf_u64 b2
        have b3 := wf_u64 b3
        have b4 := wf_u64 b4
        have b5 := wf_i64 b5
        have b6 := wf_u64 b6
        have b7 := wf_i64 b7
        refine ⟨⟨a0, a1.toNat, a2.toNat, a3.toNat, a4.toNat, a5, a6.toNat, a7, a8, a9⟩, ?_, ⟨⟨by simp only; omega, by simp only; omega, by simp only; omega, by simp only; omega, by simp only; omega, b5.1, b5.2⟩, b0.1, b0.2, b7.1, b7.2, Nat.lt_of_le_of_lt b8 (by decide), Nat.lt_of_le_of_lt b9 (by decide)⟩⟩
        rw [ha]
        unfold Cm.cells
        rw [Int.toNat_of_nonneg b1.1, Int.toNat_of_nonneg b2.1, Int.toNat_of_nonneg b3.1, Int.toNat_of_nonneg b4.1, Int.toNat_of_nonneg b6.1]
        rfl

theorem shaped_in {c : Cm} (h : Heap) (is : Bool) (i : c.In) : ∃ x : Cm, call 7 [[.agg c.cells], [.sc (.bool is)]] h = some ([.agg x.cells], h) ∧ (is = true → rightC x = true) ∧ x.Ok ∧ x.x.length < 9223372036854775808 ∧ x.y.length < 9223372036854775808 :=
  spec7 h is i.ok i.k1 i.k2 i.s1 i.s2 i.hx i.hy

theorem row_trim {g g' : Heap} {y : SV} {sz n : Nat} {cs : List SV} (hy : Row g' y sz n cs) : Row (Go.Abs.trim g g' [.sc y]) y sz n cs := by
  unfold Go.Abs.trim
  split
  · rename_i hc
    rcases hy with h1 | ⟨b, o, c, B, h1, h2⟩
    · exact .inl h1
    · rw [h1] at hc
      simp [pureT, pureV, pureS] at hc
  · exact hy

set_option maxHeartbeats 2000000 in
theorem spec13 {h : Heap} {y : SV} {l : List UInt8} (hy : Row h y 1 l.length (Go.Abs.bytes l)) (hl : l.length ≤ 2 ^ 39) : ∃ h', call 13 [[.sc y]] h = some ([.sc (.bool true)], h') := by
  have a1 := copy_app hy (by omega)
  have f1 := copy_fresh h l
  have hy1 := f1.keep hy
  have hx1 := f1.row
  generalize SV.sl h.length 0 l.length l.length = x at *
  generalize (h ++ [⟨.row 5 1, Go.Abs.bytes l⟩] : Heap) = h1 at *
  obtain ⟨g1, e1, m1⟩ := spec15 hx1 (by omega)
  generalize hc : (rCmd l).1.cells = cs at *
  have hcc : cs.length = 10 := by rw [← hc]; rfl
  have hct : cs.take 10 = cs := by rw [← hc]; rfl
  have hset : setCells [.int .i64 0, .int .u64 0, .int .u64 0, .int .u64 0, .int .u64 0, .int .i64 0, .int .u64 0, .int .i64 0, .str [], .str []] 0 cs = cs := by rw [← hc]; rfl
  have hty : eqK [.i, .i, .i, .i, .i, .i, .i, .i, .s, .s] cs cs = some true := by rw [← hc]; simp [eqK, Cm.cells]
  generalize he : (rCmd l).2 = er at *
  obtain ⟨g2, hg2⟩ : ∃ g2 : Heap, g2 = g1 ++ [⟨.var, cs⟩] := ⟨_, rfl⟩
  have m2 : Mod (fun _ => False) g1 g2 := by rw [hg2]; exact Mod.app _ _ _
  have b2 : g2[g1.length]? = some ⟨.var, cs⟩ := by rw [hg2]; simp
  have hy2 := (hy1.mod m1 fun _ _ h => h).mod m2 fun _ _ h => h
  have hx2 := (hx1.mod m1 fun _ _ h => h).mod m2 fun _ _ h => h
  obtain ⟨g3, e3, m3⟩ := spec31 hy2 (by omega)
  rw [hc, he] at e3
  obtain ⟨g4, hg4⟩ : ∃ g4 : Heap, g4 = g3 ++ [⟨.var, cs⟩] := ⟨_, rfl⟩
  have m4 : Mod (fun _ => False) g3 g4 := by rw [hg4]; exact Mod.app _ _ _
  have b4 : g4[g3.length]? = some ⟨.var, cs⟩ := by rw [hg4]; simp
  have b4' : g4[g1.length]? = some ⟨.var, cs⟩ := m4.get (m3.get b2 fun h => h) fun h => h
  have s1 := b2sA_row ((hy2.mod m3 fun _ _ h => h).mod m4 fun _ _ h => h)
  have s2 := b2sA_row ((hx2.mod m3 fun _ _ h => h).mod m4 fun _ _ h => h)
  have kn := spec8 g4
  refine ⟨_, callX (hh := trim h g4 [.sc (.bool true)]) rfl (by rfl : F 13 = some M.a13) (fun R RO RD RT E => ?_)⟩
  simp [M.a13, E.eqs, a1, e1, e3, fldA, freshB, loadA, storeA, hcc, hct, hset, b2, b4, b4', ← hg2, ← hg4, kn, hty, s1, s2]
end Go.Proofs.YtoghoddofokekaaDoor
