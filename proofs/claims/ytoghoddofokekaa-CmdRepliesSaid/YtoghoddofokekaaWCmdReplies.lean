/- CmdReplies: the law's call says true, of any reply and any bytes. -/
import Derived.Test.YtoghoddofokekaaC5
import Derived.Test.YtoghoddofokekaaZ0
set_option linter.unusedVariables false
set_option linter.unusedSimpArgs false
set_option maxRecDepth 100000
namespace Go.Proofs.Ytoghoddofokekaa.lawCmdReplies
open Go.Abs

theorem in_reply {H : Type} {k : Nat} {tv : TV} {d : DataW H} {h : Heap} (hi : In1 Try.prog h (k + 4) 42 tv d) : ∃ (code hi s : Int) (v lo : Nat), tv = [.agg [.int .i64 code, .int .u64 v, .int .i64 hi, .int .u64 lo, .int .i64 s]] ∧
    (-9223372036854775808 ≤ code ∧ code < 9223372036854775808) ∧ (-9223372036854775808 ≤ hi ∧ hi < 9223372036854775808) ∧ (-9223372036854775808 ≤ s ∧ s < 9223372036854775808) ∧ v < 18446744073709551616 ∧ lo < 18446744073709551616 := by
  obtain ⟨xs, hv, rfl⟩ := hi
  obtain ⟨parts, rfl, hl, hp, hf⟩ := View.fields (L := [(34, 0, 1), (24, 1, 1), (40, 2, 3)]) (n := 5) (by kernel_rfl) (by kernel_rfl) hv
  have ha : Go.Abs.isAgg Try.prog 42 = true := by kernel_rfl
  match xs, hl, parts, hp with
  | [x0, x1, x2, x3, x4], _, [p0, p1, p2], _ =>
    obtain ⟨a, q1, q2, _⟩ := View.int (by kernel_rfl : Try.prog.underlying 34 = some (.int .i64)) (hf 0 _ _ rfl rfl)
    obtain ⟨b, q3, q4, _⟩ := View.int (by kernel_rfl : Try.prog.underlying 24 = some (.int .u64)) (hf 1 _ _ rfl rfl)
    have f2 : View Try.prog h (k + 2 + 1) 40 [x2, x3, x4] p2 := hf 2 _ _ rfl rfl
    obtain ⟨parts2, rfl, hl2, hp2, hf2⟩ := View.fields (L := [(38, 0, 2), (3, 2, 1)]) (n := 3) (by kernel_rfl) (by kernel_rfl) f2
    match parts2, hp2 with
    | [r0, r1], _ =>
      have f3 : View Try.prog h (k + 1 + 1) 38 [x2, x3] r0 := hf2 0 _ _ rfl rfl
      obtain ⟨s, q5, q6, _⟩ := View.int (by kernel_rfl : Try.prog.underlying 3 = some (.int .i64)) (hf2 1 _ _ rfl rfl)
      obtain ⟨parts3, rfl, hl3, hp3, hf3⟩ := View.fields (L := [(2, 0, 1), (24, 1, 1)]) (n := 2) (by kernel_rfl) (by kernel_rfl) f3
      match parts3, hp3 with
      | [u0, u1], _ =>
        obtain ⟨c, q7, q8, _⟩ := View.int (by kernel_rfl : Try.prog.underlying 2 = some (.int .i64)) (hf3 0 _ _ rfl rfl)
        obtain ⟨e, q9, q10, _⟩ := View.int (by kernel_rfl : Try.prog.underlying 24 = some (.int .u64)) (hf3 1 _ _ rfl rfl)
        simp at q1 q3 q5 q7 q9
        subst q1 q3 q5 q7 q9
        have q4 := wf_u64 q4
        have q10 := wf_u64 q10
        refine ⟨a, c, s, b.toNat, e.toNat, ?_, wf_i64 q2, wf_i64 q8, wf_i64 q6, by omega, by omega⟩
        rw [ha, Int.toNat_of_nonneg q4.1, Int.toNat_of_nonneg q10.1]
        rfl

set_option maxHeartbeats 4000000 in
theorem core {H : Type} (h : Heap) (tvs : List TV) (ds : List (DataW H)) (hr : AllRo h) (hi : Ins Try.prog h 6 [42, 4, 28] tvs ds) (hz : (DataW.weightsEach Try.prog [42, 4, 28] ds).all (· ≤ reachBytes) = true) : ∃ h', callE F O 6 tvs h = some ([.sc (.bool true)], h') := by
  obtain ⟨tv, d, tvs, ds, rfl, rfl, h1, hi⟩ := ins_cons hi
  obtain ⟨tv2, d2, tvs, ds, rfl, rfl, h2, hi⟩ := ins_cons hi
  obtain ⟨tv3, d3, rfl, rfl, h3⟩ := ins_one hi
  obtain ⟨code0, hiw, s0, v, lo, rfl, hcode, hhi, hs, hv, hlo⟩ := in_reply h1
  obtain ⟨is, rfl⟩ := in_bool (by kernel_rfl) (by kernel_rfl) h2
  obtain ⟨yb, lb, rfl, hyb, hlb⟩ := in_bytesZ h3 (wok_of hz 2 rfl rfl)
  obtain ⟨code, s, hpre⟩ : ∃ code s : Int, (is = true ∧ (∀ h, call 29 [[.sc (.int .i64 code0)], [.sc (.int .i64 100)]] h = some ([.sc (.int .i64 code)], h)) ∧ (∀ h, call 29 [[.sc (.int .i64 s0)], [.sc (.int .i64 19)]] h = some ([.sc (.int .i64 s)], h))) ∨ (is = false ∧ code0 = code ∧ s0 = s) := by
    cases is
    · exact ⟨_, _, .inr ⟨rfl, rfl, rfl⟩⟩
    · exact ⟨_, _, .inl ⟨rfl, fun h => spec29 h (n := code0) (m := 100) (by omega) (by omega) hcode.1 hcode.2, fun h => spec29 h (n := s0) (m := 19) (by omega) (by omega) hs.1 hs.2⟩⟩
  obtain ⟨g0, hg0⟩ : ∃ g0 : Heap, g0 = h ++ [⟨.var, [.int .i64 code, .int .u64 v, .int .i64 hiw, .int .u64 lo, .int .i64 s]⟩] := ⟨_, rfl⟩
  have bb : g0[h.length]? = some ⟨.var, [.int .i64 code, .int .u64 v, .int .i64 hiw, .int .u64 lo, .int .i64 s]⟩ := by rw [hg0]; simp
  have m0 : Mod (fun _ => False) h g0 := by rw [hg0]; exact Mod.app _ _ _
  obtain ⟨g1, x, e1, f1⟩ := spec30 g0 (code := code) (s := s) hhi.1 hhi.2 hlo hv
  obtain ⟨g2, y, e2, f2⟩ := spec31 g1 (code := code) (s := s) hhi.1 hhi.2 hlo hv
  have x1 := f1.mod.get bb fun h => h
  have x2 := f2.mod.get x1 fun h => h
  have b1 := b2sA_row (f2.keep f1.row)
  have b2 := b2sA_row f2.row
  have kn := spec19 g2
  have m2 : Mod (fun _ => False) h g2 := (m0.trans f1.mod fun _ _ h => h).trans f2.mod fun _ _ h => h
  have hyb2 := hyb.mod m2 fun _ _ h => h
  obtain ⟨a, b, c, d, e, hP⟩ := rRep_ints lb
  by_cases hc : repOk code s
  · have hE : repE code s = 0 := by unfold repE; rw [if_pos hc]
    have hL : repL code v hiw lo s = repB code v hiw lo s := by unfold repL; rw [if_pos hc]
    have hlen : (repB code v hiw lo s).length ≤ 140737488353280 := by
      have := decB_le (s := s) hhi.1 hhi.2 hlo
      have := numB_le hv
      simp [repB]
      omega
    rw [hE] at e1 e2
    have hx2 := f2.keep f1.row
    rw [hL] at hx2
    obtain ⟨g3, e3, m3⟩ := spec32 hx2 hlen
    rw [rRep_laid hc hhi.1 hhi.2 hlo hv] at e3
    have x3 := m3.get x2 fun h => h
    have x3' : (g3 ++ [⟨.var, [.int .i64 code, .int .u64 v, .int .i64 hiw, .int .u64 lo, .int .i64 s]⟩] : Heap)[h.length]? = some ⟨.var, [.int .i64 code, .int .u64 v, .int .i64 hiw, .int .u64 lo, .int .i64 s]⟩ := (Mod.app (fun _ => False) _ _).get x3 fun h => h
    obtain ⟨g4, e4, m4⟩ := spec32 ((hyb2.mod m3 fun _ _ h => h).mod (Mod.app (fun _ => False) g3 [⟨.var, [.int .i64 code, .int .u64 v, .int .i64 hiw, .int .u64 lo, .int .i64 s]⟩]) fun _ _ h => h) (by omega)
    rw [hP] at e4
    obtain ⟨g5, e5, m5⟩ := spec33 ((((hyb2.mod m3 fun _ _ h => h).mod (Mod.app (fun _ => False) g3 [⟨.var, [.int .i64 code, .int .u64 v, .int .i64 hiw, .int .u64 lo, .int .i64 s]⟩]) fun _ _ h => h).mod m4 fun _ _ h => h).mod (Mod.app (fun _ => False) g4 [⟨.var, [.int .i64 a, .int .u64 b, .int .i64 c, .int .u64 d, .int .i64 e]⟩]) fun _ _ h => h) (by omega)
    rw [hP] at e5
    have x5 : (g5 ++ [⟨.var, [.int .i64 a, .int .u64 b, .int .i64 c, .int .u64 d, .int .i64 e]⟩] : Heap)[g4.length]? = some ⟨.var, [.int .i64 a, .int .u64 b, .int .i64 c, .int .u64 d, .int .i64 e]⟩ := (Mod.app (fun _ => False) _ _).get (m5.get (by simp) fun h => h) fun h => h
    refine ⟨_, callX (hh := trim h (g5 ++ [⟨.var, [.int .i64 a, .int .u64 b, .int .i64 c, .int .u64 d, .int .i64 e]⟩]) [.sc (.bool true)]) rfl (by rfl : F 6 = some M.a6) (fun R RO RD RT E => ?_)⟩
    rcases hpre with ⟨rfl, p1, p2⟩ | ⟨rfl, rfl, rfl⟩
    · simp [M.a6, E.eqs, p1, p2, ← hg0, fldA, freshB, loadA, storeA, bb, e1, x1, e2, kn, b1, b2, e3, x3', e4, e5, x5]
    · simp [M.a6, E.eqs, ← hg0, fldA, freshB, loadA, storeA, bb, e1, x1, e2, kn, b1, b2, e3, x3', e4, e5, x5]
  · have hE : repE code s = 1 := by unfold repE; rw [if_neg hc]
    rw [hE] at e1 e2
    obtain ⟨g4, e4, m4⟩ := spec32 hyb2 (by omega)
    rw [hP] at e4
    obtain ⟨g5, e5, m5⟩ := spec33 ((hyb2.mod m4 fun _ _ h => h).mod (Mod.app (fun _ => False) g4 [⟨.var, [.int .i64 a, .int .u64 b, .int .i64 c, .int .u64 d, .int .i64 e]⟩]) fun _ _ h => h) (by omega)
    rw [hP] at e5
    have x5 : (g5 ++ [⟨.var, [.int .i64 a, .int .u64 b, .int .i64 c, .int .u64 d, .int .i64 e]⟩] : Heap)[g4.length]? = some ⟨.var, [.int .i64 a, .int .u64 b, .int .i64 c, .int .u64 d, .int .i64 e]⟩ := (Mod.app (fun _ => False) _ _).get (m5.get (by simp) fun h => h) fun h => h
    refine ⟨_, callX (hh := trim h (g5 ++ [⟨.var, [.int .i64 a, .int .u64 b, .int .i64 c, .int .u64 d, .int .i64 e]⟩]) [.sc (.bool true)]) rfl (by rfl : F 6 = some M.a6) (fun R RO RD RT E => ?_)⟩
    rcases hpre with ⟨rfl, p1, p2⟩ | ⟨rfl, rfl, rfl⟩
    · simp [M.a6, E.eqs, p1, p2, ← hg0, fldA, freshB, loadA, storeA, bb, e1, x1, e2, kn, b1, b2, e4, e5, x5]
    · simp [M.a6, E.eqs, ← hg0, fldA, freshB, loadA, storeA, bb, e1, x1, e2, kn, b1, b2, e4, e5, x5]
end Go.Proofs.Ytoghoddofokekaa.lawCmdReplies
