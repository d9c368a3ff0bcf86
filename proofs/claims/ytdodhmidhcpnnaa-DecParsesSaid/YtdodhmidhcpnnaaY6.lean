/- What comes in: texts and bytes. -/
import Derived.Test.YtdodhmidhcpnnaaY2
set_option linter.unusedVariables false
set_option linter.unusedSimpArgs false
set_option maxRecDepth 100000
namespace Go.Proofs.Ytdodhmidhcpnnaa
open Go.Abs

theorem tySlB : Try.prog.underlying 60 = some (.slice 5) := by kernel_rfl
theorem tyB : Try.prog.underlying 5 = some (.int .u8) := by kernel_rfl
theorem czB : Try.prog.cellsOf 5 = 1 := by kernel_rfl

theorem bytes_of_all {cs : List SV} (h : ∀ (i : Nat) x, cs[i]? = some x → ∃ n, x = .int .u8 n ∧ 0 ≤ n ∧ n < 256) : ∃ l : List UInt8, cs = Go.Abs.bytes l := by
  induction cs with
  | nil => exact ⟨[], rfl⟩
  | cons c cs ih =>
    obtain ⟨n, rfl, h1, h2⟩ := h 0 c rfl
    obtain ⟨l, rfl⟩ := ih fun i x hx => h (i + 1) x (by simpa using hx)
    refine ⟨UInt8.ofNat n.toNat :: l, ?_⟩
    have : ((UInt8.ofNat n.toNat).toNat : Int) = n := by rw [UInt8.toNat_ofNat']; omega
    simp only [Go.Abs.bytes, List.map_cons, this]

theorem view_bytes {H : Type} {k : Nat} {x : SV} {d : DataW H} {h : Heap} (hv : View Try.prog h (k + 2) 60 [x] d) : ∃ l : List UInt8, Row h x 1 l.length (Go.Abs.bytes l) ∧ l.length ≤ Rows.uptoBulk d := by
  rcases View.slice tySlB czB hv with ⟨h1, rfl⟩ | ⟨b, n, cs, els, rest, h1, h2, h3, h4, h5, rfl, h7⟩
  · simp only [List.cons.injEq, and_true] at h1
    subst h1
    exact ⟨[], .inl ⟨rfl, rfl, rfl⟩, by simp⟩
  · simp only [List.cons.injEq, and_true] at h1
    subst h1
    have hn : n ≤ Rows.uptoBulk (.slice els rest) := by rw [bulk_slice]; have := bulk_len els; omega
    obtain ⟨l, rfl⟩ := bytes_of_all (cs := cs) fun i x hx => by
      have hi : i < els.length := by have := lt_of_get hx; omega
      have hv := h7 i _ (List.getElem?_eq_getElem hi)
      have e1 : (cs.drop (i * 1)).take 1 = [x] := by rw [Nat.mul_one, List.take_one, List.head?_drop, hx]; rfl
      rw [e1] at hv
      obtain ⟨m, hm, hw, _⟩ := View.int tyB hv
      simp only [List.cons.injEq, and_true] at hm
      subst hm
      exact ⟨m, rfl, wf_u8 hw⟩
    have hl : l.length = n := by rw [bytes_length] at h3; omega
    exact ⟨l, .inr ⟨b, 0, n * 1, _, by rw [hl], h2, by simp [bytes_length, hl], by rw [hl]; omega, rfl, by simp [← bytes_length l]⟩, by omega⟩

theorem agSlB : Go.Abs.isAgg Try.prog 60 = false := by kernel_rfl
theorem in_bytes {H : Type} {k : Nat} {tv : TV} {d : DataW H} {h : Heap} (hi : In1 Try.prog h (k + 2) 60 tv d) : ∃ (x : SV) (l : List UInt8), tv = [.sc x] ∧ Row h x 1 l.length (Go.Abs.bytes l) ∧ l.length ≤ Rows.uptoBulk d := by
  obtain ⟨xs, hv, rfl⟩ := in_cell agSlB hi
  have hx : ∃ x, xs = [x] := by
    rcases View.slice tySlB czB hv with ⟨h1, _⟩ | ⟨b, n, cs, els, rest, h1, _⟩
    · exact ⟨_, h1⟩
    · exact ⟨_, h1⟩
  obtain ⟨x, rfl⟩ := hx
  obtain ⟨l, h1, h2⟩ := view_bytes hv
  exact ⟨x, l, rfl, h1, h2⟩

theorem in_str {H : Type} {k : Nat} {tv : TV} {d : DataW H} {h : Heap} (hi : In1 Try.prog h (k + 1) 9 tv d) : ∃ l : List UInt8, tv = [.sc (.str l)] ∧ l.length ≤ maxLen := by
  obtain ⟨xs, hv, rfl⟩ := in_cell (by kernel_rfl) hi
  obtain ⟨l, rfl, h2, _⟩ := View.string (by kernel_rfl) hv
  exact ⟨l, rfl, h2⟩
end Go.Proofs.Ytdodhmidhcpnnaa
