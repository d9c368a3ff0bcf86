/- What comes in, by its weights: entries and messages. -/
import Derived.Test.YtoghoddofokekaaZ0
import Derived.Test.YtoghoddofokekaaJ1
set_option linter.unusedVariables false
set_option linter.unusedSimpArgs false
set_option maxRecDepth 100000
namespace Go.Proofs.Ytoghoddofokekaa
open Go.Abs

theorem in_entryZ {H : Type} {k : Nat} {tv : TV} {d : DataW H} {h : Heap} (hi : In1 Try.prog h (k + 4) 57 tv d) (hw : WOk Try.prog 57 d) : ∃ (kind conf : Int) (term index : Nat) (x : SV) (T : List UInt8), tv = [.agg (eC kind term index x conf)] ∧ Row h x 1 T.length (Go.Abs.bytes T) ∧ T.length ≤ 140737488351232 ∧
    term < 18446744073709551616 ∧ index < 18446744073709551616 ∧ -9223372036854775808 ≤ kind ∧ kind < 9223372036854775808 ∧ -9223372036854775808 ≤ conf ∧ conf < 9223372036854775808 := by
  obtain ⟨xs, hv, rfl⟩ := hi
  obtain ⟨parts, rfl, hl, hp, hf⟩ := View.fields (L := [(3, 0, 1), (24, 1, 1), (24, 2, 1), (28, 3, 1), (3, 4, 1)]) (n := 5) (by kernel_rfl) (by kernel_rfl) hv
  have wa := fun i p d => wok_agg (L := [(3, 0, 1), (24, 1, 1), (24, 2, 1), (28, 3, 1), (3, 4, 1)]) (by kernel_rfl) hw i (p := p) (d := d)
  have ha : Go.Abs.isAgg Try.prog 57 = true := by kernel_rfl
  match xs, hl, parts, hp with
  | [x0, x1, x2, x3, x4], _, [p0, p1, p2, p3, p4], _ =>
    obtain ⟨a, q1, q2, _⟩ := View.int (by kernel_rfl : Try.prog.underlying 3 = some (.int .i64)) (hf 0 _ _ rfl rfl)
    obtain ⟨b, q3, q4, _⟩ := View.int (by kernel_rfl : Try.prog.underlying 24 = some (.int .u64)) (hf 1 _ _ rfl rfl)
    obtain ⟨c, q5, q6, _⟩ := View.int (by kernel_rfl : Try.prog.underlying 24 = some (.int .u64)) (hf 2 _ _ rfl rfl)
    have f3 : View Try.prog h (k + 1 + 2) 28 [x3] p3 := hf 3 _ _ rfl rfl
    obtain ⟨T, hT, hbulk⟩ := view_bytesZ f3 (wa 3 _ _ rfl rfl)
    obtain ⟨e, q9, q10, _⟩ := View.int (by kernel_rfl : Try.prog.underlying 3 = some (.int .i64)) (hf 4 _ _ rfl rfl)
    simp at q1 q3 q5 q9
    subst q1 q3 q5 q9
    have q4 := wf_u64 q4
    have q6 := wf_u64 q6
    have q2 := wf_i64 q2
    have q10 := wf_i64 q10
    refine ⟨a, e, b.toNat, c.toNat, x3, T, ?_, hT, hbulk, by omega, by omega, q2.1, q2.2, q10.1, q10.2⟩
    rw [ha]
    unfold eC
    rw [Int.toNat_of_nonneg q4.1, Int.toNat_of_nonneg q6.1]
    rfl

theorem view_entZ {H : Type} {k : Nat} {xs : List SV} {d : DataW H} {h : Heap} (hv : View Try.prog h (k + 4) 57 xs d) (hw : WOk Try.prog 57 d) : ∃ z : En × SV, xs = z.1.c z.2 ∧ Row h z.2 1 z.1.T.length (Go.Abs.bytes z.1.T) ∧ z.1.T.length ≤ 140737488351232 ∧ z.1.term < 18446744073709551616 ∧ z.1.index < 18446744073709551616 := by
  have ha : Go.Abs.isAgg Try.prog 57 = true := by kernel_rfl
  obtain ⟨kind, conf, term, index, x, T, e, hx, hb, ht, hi, _⟩ := in_entryZ (tv := tvOf (Go.Abs.isAgg Try.prog 57) xs) ⟨xs, hv, rfl⟩ hw
  rw [ha] at e
  have e : xs = eC kind term index x conf := by simpa [tvOf] using e
  exact ⟨(⟨kind, term, index, T, conf⟩, x), e, hx, hb, ht, hi⟩

theorem view_entsZ {H : Type} {k : Nat} {x : SV} {d : DataW H} {h : Heap} (hv : View Try.prog h (k + 5) 25 [x] d) (hw : WOk Try.prog 25 d) : ∃ es : List (En × SV), EsAt h x es ∧ es.length ≤ 2513169434844 ∧ ∀ z ∈ es, z.1.T.length ≤ 140737488351232 := by
  rcases View.slice (by kernel_rfl : Try.prog.underlying 25 = some (.slice 57)) (by kernel_rfl : Try.prog.cellsOf 57 = 5) hv with ⟨h1, rfl⟩ | ⟨b, n, cs, els, rest, h1, h2, h3, h4, h5, rfl, h7⟩
  · simp only [List.cons.injEq, and_true] at h1
    subst h1
    exact ⟨[], ⟨.inl ⟨rfl, rfl, rfl⟩, fun z hz => by simp at hz, fun z hz => by simp at hz⟩, by simp, fun z hz => by simp at hz⟩
  · simp only [List.cons.injEq, and_true] at h1
    subst h1
    obtain ⟨hs, hel⟩ := wok_slice (by kernel_rfl : Try.prog.underlying 25 = some (.slice 57)) hw
    rw [show Try.prog.bytesOf 57 = 56 by kernel_rfl] at hs
    obtain ⟨es, e1, e2, e3⟩ := ents_of (P := fun z => Row h z.2 1 z.1.T.length (Go.Abs.bytes z.1.T) ∧ z.1.T.length ≤ 140737488351232 ∧ z.1.term < 18446744073709551616 ∧ z.1.index < 18446744073709551616) n cs h3 fun i hi => by
      have hlt : i < els.length := by omega
      exact view_entZ (h7 i _ (List.getElem?_eq_getElem hlt)) (hel _ (List.getElem_mem hlt))
    exact ⟨es, ⟨.inr ⟨b, 0, n * 5, _, by rw [e1], h2, by simp [h3], by rw [e1]; omega, rfl, by rw [e2]; simp [e1, ← h3]⟩, fun z hz => (e3 z hz).1, fun z hz => (e3 z hz).2.2⟩, by omega, fun z hz => (e3 z hz).2.1⟩

theorem in_msgZ {H : Type} {k : Nat} {tv : TV} {d : DataW H} {h : Heap} (hi : In1 Try.prog h (k + 6) 30 tv d) (hw : WOk Try.prog 30 d) : ∃ (m : Ms) (xe xd : SV), tv = [.agg (m.cells xe xd)] ∧ EsAt h xe m.es ∧ Row h xd 1 m.D.length (Go.Abs.bytes m.D) ∧ m.D.length ≤ 140737488351232 ∧ m.es.length ≤ 2513169434844 ∧ (∀ z ∈ m.es, z.1.T.length ≤ 140737488351232) ∧ MsN m := by
  obtain ⟨xs, hv, rfl⟩ := hi
  obtain ⟨parts, rfl, hl, hp, hf⟩ := View.fields (L := [(3, 0, 1), (3, 1, 1), (3, 2, 1), (24, 3, 1), (24, 4, 1), (24, 5, 1), (25, 6, 1), (24, 7, 1), (4, 8, 1), (27, 9, 3), (3, 12, 1), (28, 13, 1), (4, 14, 1)]) (n := 15) (by kernel_rfl) (by kernel_rfl) hv
  have wa := fun i p d => wok_agg (L := [(3, 0, 1), (3, 1, 1), (3, 2, 1), (24, 3, 1), (24, 4, 1), (24, 5, 1), (25, 6, 1), (24, 7, 1), (4, 8, 1), (27, 9, 3), (3, 12, 1), (28, 13, 1), (4, 14, 1)]) (by kernel_rfl) hw i (p := p) (d := d)
  have ha : Go.Abs.isAgg Try.prog 30 = true := by kernel_rfl
  have ti : Try.prog.underlying 3 = some (.int .i64) := by kernel_rfl
  have tu : Try.prog.underlying 24 = some (.int .u64) := by kernel_rfl
  have tb : Try.prog.underlying 4 = some .bool := by kernel_rfl
  match xs, hl, parts, hp with
  | [x0, x1, x2, x3, x4, x5, x6, x7, x8, x9, x10, x11, x12, x13, x14], _, [p0, p1, p2, p3, p4, p5, p6, p7, p8, p9, p10, p11, p12], _ =>
    obtain ⟨a0, e0, b0, _⟩ := View.int ti (hf 0 _ _ rfl rfl)
    obtain ⟨a1, e1, b1, _⟩ := View.int ti (hf 1 _ _ rfl rfl)
    obtain ⟨a2, e2, b2, _⟩ := View.int ti (hf 2 _ _ rfl rfl)
    obtain ⟨a3, e3, b3, _⟩ := View.int tu (hf 3 _ _ rfl rfl)
    obtain ⟨a4, e4, b4, _⟩ := View.int tu (hf 4 _ _ rfl rfl)
    obtain ⟨a5, e5, b5, _⟩ := View.int tu (hf 5 _ _ rfl rfl)
    have f6 : View Try.prog h (k + 5) 25 [x6] p6 := hf 6 _ _ rfl rfl
    obtain ⟨a7, e7, b7, _⟩ := View.int tu (hf 7 _ _ rfl rfl)
    obtain ⟨a8, e8, _⟩ := View.bool tb (hf 8 _ _ rfl rfl)
    have f9 : View Try.prog h (k + 4 + 1) 27 [x9, x10, x11] p9 := hf 9 _ _ rfl rfl
    obtain ⟨q, rfl, _, hq, hg⟩ := View.fields (L := [(24, 0, 1), (24, 1, 1), (3, 2, 1)]) (n := 3) (by kernel_rfl) (by kernel_rfl) f9
    obtain ⟨a12, e12, b12, _⟩ := View.int ti (hf 10 _ _ rfl rfl)
    have f13 : View Try.prog h (k + 3 + 2) 28 [x13] p11 := hf 11 _ _ rfl rfl
    obtain ⟨a14, e14, _⟩ := View.bool tb (hf 12 _ _ rfl rfl)
    match q, hq with
    | [q0, q1, q2], _ =>
      obtain ⟨a9, e9, b9, _⟩ := View.int tu (hg 0 _ _ rfl rfl)
      obtain ⟨a10, e10, b10, _⟩ := View.int tu (hg 1 _ _ rfl rfl)
      obtain ⟨a11, e11, b11, _⟩ := View.int ti (hg 2 _ _ rfl rfl)
      obtain ⟨es, E1, E2, E3⟩ := view_entsZ f6 (wa 6 _ _ rfl rfl)
      obtain ⟨D, D1, D2⟩ := view_bytesZ f13 (wa 11 _ _ rfl rfl)
      simp at e0 e1 e2 e3 e4 e5 e7 e8 e9 e10 e11 e12 e14
      subst e0 e1 e2 e3 e4 e5 e7 e8 e9 e10 e11 e12 e14
      have b3 := wf_u64 b3
      have b4 := wf_u64 b4
      have b5 := wf_u64 b5
      have b7 := wf_u64 b7
      have b9 := wf_u64 b9
      have b10 := wf_u64 b10
      have b12 := wf_i64 b12
      refine ⟨⟨a0, a1, a2, a3.toNat, a4.toNat, a5.toNat, es, a7.toNat, a8, a9.toNat, a10.toNat, a11, a12, D, a14⟩, x6, x13, ?_, E1, D1, D2, E2, E3, ⟨by simp only; omega, by simp only; omega, by simp only; omega, by simp only; omega, by simp only; omega, by simp only; omega, b12⟩⟩
      rw [ha]
      unfold Ms.cells
      rw [Int.toNat_of_nonneg b3.1, Int.toNat_of_nonneg b4.1, Int.toNat_of_nonneg b5.1, Int.toNat_of_nonneg b7.1, Int.toNat_of_nonneg b9.1, Int.toNat_of_nonneg b10.1]
      rfl

end Go.Proofs.Ytoghoddofokekaa
