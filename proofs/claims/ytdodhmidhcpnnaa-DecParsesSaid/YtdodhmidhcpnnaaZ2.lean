/- What comes in, by its weights: each slice and text is of at most 2^47 - 4096 bytes. -/
import Derived.Test.YtdodhmidhcpnnaaY6
import Derived.SizedLaws
set_option linter.unusedVariables false
set_option linter.unusedSimpArgs false
set_option maxRecDepth 100000
namespace Go.Proofs.Ytdodhmidhcpnnaa
open Go.Abs

def WOk {H : Type} (P : Program) (t : TypeId) (d : DataW H) : Prop := ∀ x ∈ d.weights P t, x ≤ 140737488351232
section
variable {H : Type} {P : Program}
theorem wok_of {ts : List TypeId} {ds : List (DataW H)} (hz : (DataW.weightsEach P ts ds).all (· ≤ reachBytes) = true) (j : Nat) {t : TypeId} {d : DataW H} (ht : ts[j]? = some t) (hd : ds[j]? = some d) : WOk P t d := fun x hx => by
  have := List.all_eq_true.1 hz x (DataW.weights_mem_each ht hd x hx)
  have e : x ≤ reachBytes := by simpa using this
  exact e
theorem wok_agg {t : TypeId} {L : List (TypeId × Nat × Nat)} (hf : fieldsOf P t = some L) {parts : List (DataW H)} (hw : WOk P t (.agg parts)) (i : Nat) {p : TypeId × Nat × Nat} {d : DataW H} (hp : L[i]? = some p) (hd : parts[i]? = some d) : WOk P p.1 d := fun x hx => by
  refine hw x ?_
  unfold fieldsOf at hf
  split at hf
  · rename_i fs hu
    injection hf with hf
    simp only [DataW.weights, hu]
    refine DataW.weights_mem_each (j := i) ?_ hd x hx
    rw [← hf, List.getElem?_map] at hp
    obtain ⟨f, hf, rfl⟩ := Option.map_eq_some_iff.1 hp
    rw [List.getElem?_map, hf]
    rfl
  · simp at hf
theorem weights_all {e : TypeId} {d : DataW H} {x : Nat} (hx : x ∈ d.weights P e) : ∀ {l : List (DataW H)}, d ∈ l → x ∈ DataW.weightsAll P e l
  | [], h => by simp at h
  | a :: l, h => by
    simp only [DataW.weightsAll, List.mem_append]
    rcases List.mem_cons.1 h with rfl | h
    · exact .inl hx
    · exact .inr (weights_all hx h)
theorem wok_slice {t e : TypeId} (hu : P.underlying t = some (.slice e)) {a b : List (DataW H)} (hw : WOk P t (.slice a b)) : (a.length + b.length) * P.bytesOf e ≤ 140737488351232 ∧ ∀ d ∈ a, WOk P e d :=
  ⟨hw _ (by simp [DataW.weights, hu]), fun d hd x hx => hw x (by simp only [DataW.weights, hu, List.mem_cons, List.mem_append]; exact .inr (.inl (weights_all hx hd)))⟩
theorem wok_string {t : TypeId} {l : List UInt8} (hw : WOk P t (.lit (.string l) : DataW H)) : l.length ≤ 140737488351232 := hw _ (by simp [DataW.weights])
end

theorem view_bytesZ {H : Type} {k : Nat} {x : SV} {d : DataW H} {h : Heap} (hv : View Try.prog h (k + 2) 60 [x] d) (hw : WOk Try.prog 60 d) : ∃ l : List UInt8, Row h x 1 l.length (Go.Abs.bytes l) ∧ l.length ≤ 140737488351232 := by
  rcases View.slice tySlB czB hv with ⟨h1, rfl⟩ | ⟨b, n, cs, els, rest, h1, h2, h3, h4, h5, rfl, h7⟩
  · simp only [List.cons.injEq, and_true] at h1
    subst h1
    exact ⟨[], .inl ⟨rfl, rfl, rfl⟩, by simp⟩
  · simp only [List.cons.injEq, and_true] at h1
    subst h1
    have hs := (wok_slice tySlB hw).1
    rw [show Try.prog.bytesOf 5 = 1 by kernel_rfl] at hs
    obtain ⟨l, rfl⟩ := bytes_of_all (cs := cs) fun i x hx => by
      have hi : i < els.length := by have := lt_of_get hx; omega
      have hv := h7 i _ (List.getElem?_eq_getElem hi)
      have e1 : (cs.drop (i * 1)).take 1 = [x] := by rw [Nat.mul_one, List.take_one, List.head?_drop, hx]; rfl
      rw [e1] at hv
      obtain ⟨m, hm, hw, _⟩ := View.int tyB hv
      simp only [List.cons.injEq, and_true] at hm
      subst hm
      exact ⟨m, rfl, wf_u8 hw⟩
    have hl : l.length = n := by rw [bytes_length] at h3; omega
    exact ⟨l, .inr ⟨b, 0, n * 1, _, by rw [hl], h2, by simp [bytes_length, hl], by rw [hl]; omega, rfl, by simp [← bytes_length l]⟩, by omega⟩

theorem in_bytesZ {H : Type} {k : Nat} {tv : TV} {d : DataW H} {h : Heap} (hi : In1 Try.prog h (k + 2) 60 tv d) (hw : WOk Try.prog 60 d) : ∃ (x : SV) (l : List UInt8), tv = [.sc x] ∧ Row h x 1 l.length (Go.Abs.bytes l) ∧ l.length ≤ 140737488351232 := by
  obtain ⟨xs, hv, rfl⟩ := in_cell agSlB hi
  have hx : ∃ x, xs = [x] := by
    rcases View.slice tySlB czB hv with ⟨h1, _⟩ | ⟨b, n, cs, els, rest, h1, _⟩
    · exact ⟨_, h1⟩
    · exact ⟨_, h1⟩
  obtain ⟨x, rfl⟩ := hx
  obtain ⟨l, h1, h2⟩ := view_bytesZ hv hw
  exact ⟨x, l, rfl, h1, h2⟩
end Go.Proofs.Ytdodhmidhcpnnaa
