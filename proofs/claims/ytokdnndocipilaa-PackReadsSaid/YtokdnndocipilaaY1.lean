/- What comes in: bytes. -/
import Derived.Test.YtokdnndocipilaaFK
import Derived.Test.YtokdnndocipilaaXJ
import Derived.Test.YtokdnndocipilaaRows
set_option linter.unusedVariables false
set_option linter.unusedSimpArgs false
set_option maxRecDepth 100000
namespace Go.Proofs.Ytokdnndocipilaa
open Go.Abs

theorem bulk_pos {H : Type} : ∀ d : DataW H, 1 ≤ Rows.uptoBulk d
  | .lit (.string _) => by simp [Rows.uptoBulk]
  | .lit (.bool _) | .lit (.int _ _) | .lit (.float _ _) | .lit .nil => by simp [Rows.uptoBulk]
  | .nil | .ptr _ | .slice _ _ | .agg _ | .iface _ _ | .map _ | .held _ => by simp [Rows.uptoBulk]
theorem bulk_len {H : Type} : ∀ ds : List (DataW H), ds.length ≤ Rows.uptoBulkAll ds
  | [] => by simp [Rows.uptoBulkAll]
  | d :: ds => by have := bulk_len ds; have := bulk_pos d; simp [Rows.uptoBulkAll]; omega
theorem bulk_mem {H : Type} {d : DataW H} : ∀ {ds : List (DataW H)}, d ∈ ds → Rows.uptoBulk d ≤ Rows.uptoBulkAll ds
  | [], h => by simp at h
  | e :: ds, h => by
    simp only [Rows.uptoBulkAll]
    rcases List.mem_cons.1 h with rfl | h
    · omega
    · have := bulk_mem h; omega
theorem bulk_slice {H : Type} (a b : List (DataW H)) : Rows.uptoBulk (.slice a b) = Rows.uptoBulkAll a + Rows.uptoBulkAll b + 1 := by simp [Rows.uptoBulk]
theorem bulk_agg {H : Type} (a : List (DataW H)) : Rows.uptoBulk (.agg a) = Rows.uptoBulkAll a + 1 := by simp [Rows.uptoBulk]

theorem tySlB : Try.prog.underlying 23 = some (.slice 5) := by kernel_rfl
theorem tyB : Try.prog.underlying 5 = some (.int .u8) := by kernel_rfl
theorem czB : Try.prog.cellsOf 5 = 1 := by kernel_rfl

theorem bytes_of_all {cs : List SV} (h : ∀ (i : Nat) x, cs[i]? = some x → ∃ n, x = .int .u8 n ∧ 0 ≤ n ∧ n < 256) : ∃ l : List UInt8, cs = Go.Abs.bytes l := by
  induction cs with
  | nil => exact ⟨[], rfl⟩
  | cons c cs ih =>
    obtain ⟨n, rfl, h1, h2⟩ := h 0 c rfl
    obtain ⟨l, rfl⟩ := ih fun i x hx => h (i + 1) x (by simpa using hx)
    refine ⟨UInt8.ofNat n.toNat :: l, ?_⟩
    have : ((UInt8.ofNat n.toNat).toNat : Int) = n := by rw [UInt8.toNat_ofNat']; omega
    simp only [Go.Abs.bytes, List.map_cons, this]

theorem view_bytes {H : Type} {k : Nat} {x : SV} {d : DataW H} {h : Heap} (hv : View Try.prog h (k + 2) 23 [x] d) : ∃ l : List UInt8, Row h x 1 l.length (Go.Abs.bytes l) ∧ l.length ≤ Rows.uptoBulk d := by
  rcases View.slice tySlB czB hv with ⟨h1, rfl⟩ | ⟨b, n, cs, els, rest, h1, h2, h3, h4, h5, rfl, h7⟩
  · simp only [List.cons.injEq, and_true] at h1
    subst h1
    exact ⟨[], .inl ⟨rfl, rfl, rfl⟩, by simp⟩
  · simp only [List.cons.injEq, and_true] at h1
    subst h1
    have hn : n ≤ Rows.uptoBulk (.slice els rest) := by rw [bulk_slice]; have := bulk_len els; omega
    obtain ⟨l, rfl⟩ := bytes_of_all (cs := cs) fun i x hx => by
      have hi : i < els.length := by have := lt_of_get hx; omega
      have hv := h7 i _ (List.getElem?_eq_getElem hi)
      have e1 : (cs.drop (i * 1)).take 1 = [x] := by rw [Nat.mul_one, List.take_one, List.head?_drop, hx]; rfl
      rw [e1] at hv
      obtain ⟨m, hm, hw, _⟩ := View.int tyB hv
      simp only [List.cons.injEq, and_true] at hm
      subst hm
      exact ⟨m, rfl, wf_u8 hw⟩
    have hl : l.length = n := by rw [bytes_length] at h3; omega
    exact ⟨l, .inr ⟨b, 0, n * 1, _, by rw [hl], h2, by simp [bytes_length, hl], by rw [hl]; omega, rfl, by simp [← bytes_length l]⟩, by omega⟩

theorem ins_one {H : Type} {P : Program} {h : Heap} {k : Nat} {t : TypeId} {tvs : List TV} {ds : List (DataW H)} (hi : Ins P h k [t] tvs ds) : ∃ tv d, tvs = [tv] ∧ ds = [d] ∧ In1 P h k t tv d := by
  match tvs, ds, hi with
  | [tv], [d], hi => exact ⟨tv, d, rfl, rfl, hi.1⟩
  | [], _, hi => exact hi.elim
  | [_], [], hi => exact hi.elim
  | [_], _ :: _ :: _, hi => exact hi.2.elim
  | _ :: _ :: _, [], hi => exact hi.elim
  | _ :: _ :: _, [_], hi => exact hi.2.elim
  | _ :: _ :: _, _ :: _ :: _, hi => exact hi.2.elim
theorem ins_cons {H : Type} {P : Program} {h : Heap} {k : Nat} {t : TypeId} {ts : List TypeId} {tvs : List TV} {ds : List (DataW H)} (hi : Ins P h k (t :: ts) tvs ds) : ∃ tv d tvs' ds', tvs = tv :: tvs' ∧ ds = d :: ds' ∧ In1 P h k t tv d ∧ Ins P h k ts tvs' ds' := by
  match tvs, ds, hi with
  | tv :: tvs, d :: ds, hi => exact ⟨tv, d, tvs, ds, rfl, rfl, hi.1, hi.2⟩
  | [], _, hi => exact hi.elim
  | _ :: _, [], hi => exact hi.elim
theorem ins_nil {H : Type} {P : Program} {h : Heap} {k : Nat} {tvs : List TV} {ds : List (DataW H)} (hi : Ins P h k [] tvs ds) : tvs = [] ∧ ds = [] := by
  match tvs, ds, hi with
  | [], [], _ => exact ⟨rfl, rfl⟩
  | _ :: _, _, hi => exact hi.elim
  | [], _ :: _, hi => exact hi.elim
/-- an argument that is one cell -/
theorem in_cell {H : Type} {P : Program} {h : Heap} {k : Nat} {t : TypeId} {tv : TV} {d : DataW H} (ha : Go.Abs.isAgg P t = false) (hi : In1 P h k t tv d) : ∃ xs, View P h k t xs d ∧ tv = tvOf false xs := by
  obtain ⟨xs, h1, h2⟩ := hi
  exact ⟨xs, h1, by rw [h2, ha]⟩

theorem agSlB : Go.Abs.isAgg Try.prog 23 = false := by kernel_rfl
theorem in_bytes {H : Type} {k : Nat} {tv : TV} {d : DataW H} {h : Heap} (hi : In1 Try.prog h (k + 2) 23 tv d) : ∃ (x : SV) (l : List UInt8), tv = [.sc x] ∧ Row h x 1 l.length (Go.Abs.bytes l) ∧ l.length ≤ Rows.uptoBulk d := by
  obtain ⟨xs, hv, rfl⟩ := in_cell agSlB hi
  have hx : ∃ x, xs = [x] := by
    rcases View.slice tySlB czB hv with ⟨h1, _⟩ | ⟨b, n, cs, els, rest, h1, _⟩
    · exact ⟨_, h1⟩
    · exact ⟨_, h1⟩
  obtain ⟨x, rfl⟩ := hx
  obtain ⟨l, h1, h2⟩ := view_bytes hv
  exact ⟨x, l, rfl, h1, h2⟩

theorem in_num {H : Type} {k : Nat} {t : TypeId} {q : IntKind} {tv : TV} {d : DataW H} {h : Heap} (ha : Go.Abs.isAgg Try.prog t = false) (hu : Try.prog.underlying t = some (.int q)) (hi : In1 Try.prog h (k + 1) t tv d) : ∃ n : Int, tv = [.sc (.int q n)] ∧ (Lit.int q n).wf = true := by
  obtain ⟨xs, hv, rfl⟩ := in_cell ha hi
  obtain ⟨n, rfl, hw, _⟩ := View.int hu hv
  exact ⟨n, rfl, hw⟩
theorem in_bool {H : Type} {k : Nat} {t : TypeId} {tv : TV} {d : DataW H} {h : Heap} (ha : Go.Abs.isAgg Try.prog t = false) (hu : Try.prog.underlying t = some .bool) (hi : In1 Try.prog h (k + 1) t tv d) : ∃ b : Bool, tv = [.sc (.bool b)] := by
  obtain ⟨xs, hv, rfl⟩ := in_cell ha hi
  obtain ⟨n, rfl, _⟩ := View.bool hu hv
  exact ⟨n, rfl⟩
theorem in_int {H : Type} {k : Nat} {tv : TV} {d : DataW H} {h : Heap} (hi : In1 Try.prog h (k + 1) 3 tv d) : ∃ n : Int, tv = [.sc (.int .i64 n)] ∧ -9223372036854775808 ≤ n ∧ n < 9223372036854775808 := by
  obtain ⟨n, h1, h2⟩ := in_num (by kernel_rfl) (by kernel_rfl) hi
  exact ⟨n, h1, wf_i64 h2⟩
end Go.Proofs.Ytokdnndocipilaa
