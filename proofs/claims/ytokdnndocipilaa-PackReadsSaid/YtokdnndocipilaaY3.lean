/- What comes in: chapter 1's asks and lays. -/
import Derived.Test.YtokdnndocipilaaY1
import Derived.Test.YtokdnndocipilaaSF
set_option linter.unusedVariables false
set_option linter.unusedSimpArgs false
set_option maxRecDepth 100000
namespace Go.Proofs.Ytokdnndocipilaa
open Go.Abs

theorem tySlA : Try.prog.underlying 47 = some (.slice 51) := by kernel_rfl
theorem czA : Try.prog.cellsOf 51 = 4 := by kernel_rfl
theorem fsA : fieldsOf Try.prog 51 = some [(3, 0, 1), (5, 1, 1), (28, 2, 1), (3, 3, 1)] := by kernel_rfl
theorem agSlA : Go.Abs.isAgg Try.prog 47 = false := by kernel_rfl
theorem tyI : Try.prog.underlying 3 = some (.int .i64) := by kernel_rfl
theorem tyN : Try.prog.underlying 28 = some (.int .u64) := by kernel_rfl

theorem view_ask {H : Type} {k : Nat} {xs : List SV} {d : DataW H} {h : Heap} (hv : View Try.prog h (k + 2) 51 xs d) : ∃ q : Ask, xs = q.cells ∧ q.ok := by
  obtain ⟨parts, rfl, hl, hp, hf⟩ := View.fields fsA czA hv
  match xs, hl, parts, hp with
  | [x0, x1, x2, x3], _, [p0, p1, p2, p3], _ =>
    obtain ⟨a, h1, h2, _⟩ := View.int tyI (hf 0 _ _ rfl rfl)
    obtain ⟨b, h3, h4, _⟩ := View.int tyB (hf 1 _ _ rfl rfl)
    obtain ⟨c, h5, h6, _⟩ := View.int tyN (hf 2 _ _ rfl rfl)
    obtain ⟨e, h7, h8, _⟩ := View.int tyI (hf 3 _ _ rfl rfl)
    simp at h1 h3 h5 h7
    subst h1 h3 h5 h7
    have h4 := wf_u8 h4
    have h6 := wf_u64 h6
    refine ⟨⟨a, b.toNat, c.toNat, e⟩, ?_, wf_i64 h2, by simp only; omega, by simp only; omega, wf_i64 h8⟩
    simp only [Ask.cells]
    rw [Int.toNat_of_nonneg h4.1, Int.toNat_of_nonneg h6.1]

/-- a slice of structs, element by element -/
theorem list_of {α : Type} {cells : α → List SV} {ok : α → Prop} {sz : Nat} : ∀ (n : Nat) (cs : List SV), cs.length = n * sz → (∀ i, i < n → ∃ q : α, (cs.drop (i * sz)).take sz = cells q ∧ ok q) → ∃ l : List α, l.length = n ∧ cs = (l.map cells).flatten ∧ ∀ z ∈ l, ok z
  | 0, cs, hl, _ => ⟨[], rfl, by simpa using hl, by simp⟩
  | n + 1, cs, hl, hc => by
    obtain ⟨q, h1, h2⟩ := hc 0 (by omega)
    have e2 : (n + 1) * sz = n * sz + sz := by rw [Nat.add_mul, Nat.one_mul]
    obtain ⟨l, g1, g2, g3⟩ := list_of (cells := cells) (ok := ok) (sz := sz) n (cs.drop sz) (by rw [List.length_drop]; omega) fun i hi => by
      obtain ⟨q, h1, h2⟩ := hc (i + 1) (by omega)
      refine ⟨q, ?_, h2⟩
      rw [← h1, List.drop_drop]
      congr 2
      rw [Nat.add_mul, Nat.one_mul, Nat.add_comm]
    refine ⟨q :: l, by simp [g1], ?_, fun z hz => ?_⟩
    · simp only [List.map_cons, List.flatten_cons, ← g2, ← h1]
      rw [Nat.zero_mul, List.drop_zero, List.take_append_drop]
    · rcases List.mem_cons.1 hz with rfl | hz
      · exact h2
      · exact g3 z hz

theorem in_asks {H : Type} {k : Nat} {tv : TV} {d : DataW H} {h : Heap} (hi : In1 Try.prog h (k + 3) 47 tv d) : ∃ (x : SV) (q : List Ask), tv = [.sc x] ∧ Row h x 4 q.length (askC q) ∧ (∀ z ∈ q, z.ok) ∧ q.length ≤ Rows.uptoBulk d := by
  obtain ⟨xs, hv, rfl⟩ := in_cell agSlA hi
  rcases View.slice tySlA czA hv with ⟨rfl, rfl⟩ | ⟨b, n, cs, els, rest, rfl, h2, h3, h4, h5, rfl, h7⟩
  · exact ⟨.nils, [], rfl, .inl ⟨rfl, rfl, rfl⟩, by simp, by simp⟩
  · obtain ⟨l, g1, g2, g3⟩ := list_of (cells := Ask.cells) (ok := Ask.ok) (sz := 4) n cs h3 fun i hi => view_ask (h7 i _ (List.getElem?_eq_getElem (by omega)))
    refine ⟨_, l, rfl, .inr ⟨b, 0, n * 4, _, by rw [g1], h2, by simp [h3], by rw [g1]; omega, rfl, ?_⟩, g3, ?_⟩
    · rw [g1, List.drop_zero, ← h3, List.take_length]
      exact g2
    · rw [bulk_slice, g1]
      have := bulk_len els
      omega
end Go.Proofs.Ytokdnndocipilaa
