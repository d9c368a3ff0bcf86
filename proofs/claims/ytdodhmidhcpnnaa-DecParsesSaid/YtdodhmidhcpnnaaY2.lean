/- What comes in: numbers of 128 bits. -/
import Derived.Test.YtdodhmidhcpnnaaN1
import Derived.Test.YtdodhmidhcpnnaaRows
set_option linter.unusedVariables false
set_option linter.unusedSimpArgs false
set_option maxRecDepth 100000
namespace Go.Proofs.Ytdodhmidhcpnnaa
open Go.Abs

theorem bulk_pos {H : Type} : ∀ d : DataW H, 1 ≤ Rows.uptoBulk d
  | .lit (.string _) => by simp [Rows.uptoBulk]
  | .lit (.bool _) | .lit (.int _ _) | .lit (.float _ _) | .lit .nil => by simp [Rows.uptoBulk]
  | .nil | .ptr _ | .slice _ _ | .agg _ | .iface _ _ | .map _ | .held _ => by simp [Rows.uptoBulk]
theorem bulk_len {H : Type} : ∀ ds : List (DataW H), ds.length ≤ Rows.uptoBulkAll ds
  | [] => by simp [Rows.uptoBulkAll]
  | d :: ds => by have := bulk_len ds; have := bulk_pos d; simp [Rows.uptoBulkAll]; omega
theorem bulk_mem {H : Type} {d : DataW H} : ∀ {ds : List (DataW H)}, d ∈ ds → Rows.uptoBulk d ≤ Rows.uptoBulkAll ds
  | [], h => by simp at h
  | e :: ds, h => by
    simp only [Rows.uptoBulkAll]
    rcases List.mem_cons.1 h with rfl | h
    · omega
    · have := bulk_mem h; omega
theorem bulk_slice {H : Type} (a b : List (DataW H)) : Rows.uptoBulk (.slice a b) = Rows.uptoBulkAll a + Rows.uptoBulkAll b + 1 := by simp [Rows.uptoBulk]
theorem bulk_agg {H : Type} (a : List (DataW H)) : Rows.uptoBulk (.agg a) = Rows.uptoBulkAll a + 1 := by simp [Rows.uptoBulk]

theorem ins_one {H : Type} {P : Program} {h : Heap} {k : Nat} {t : TypeId} {tvs : List TV} {ds : List (DataW H)} (hi : Ins P h k [t] tvs ds) : ∃ tv d, tvs = [tv] ∧ ds = [d] ∧ In1 P h k t tv d := by
  match tvs, ds, hi with
  | [tv], [d], hi => exact ⟨tv, d, rfl, rfl, hi.1⟩
  | [], _, hi => exact hi.elim
  | [_], [], hi => exact hi.elim
  | [_], _ :: _ :: _, hi => exact hi.2.elim
  | _ :: _ :: _, [], hi => exact hi.elim
  | _ :: _ :: _, [_], hi => exact hi.2.elim
  | _ :: _ :: _, _ :: _ :: _, hi => exact hi.2.elim
theorem ins_cons {H : Type} {P : Program} {h : Heap} {k : Nat} {t : TypeId} {ts : List TypeId} {tvs : List TV} {ds : List (DataW H)} (hi : Ins P h k (t :: ts) tvs ds) : ∃ tv d tvs' ds', tvs = tv :: tvs' ∧ ds = d :: ds' ∧ In1 P h k t tv d ∧ Ins P h k ts tvs' ds' := by
  match tvs, ds, hi with
  | tv :: tvs, d :: ds, hi => exact ⟨tv, d, tvs, ds, rfl, rfl, hi.1, hi.2⟩
  | [], _, hi => exact hi.elim
  | _ :: _, [], hi => exact hi.elim
theorem ins_nil {H : Type} {P : Program} {h : Heap} {k : Nat} {tvs : List TV} {ds : List (DataW H)} (hi : Ins P h k [] tvs ds) : tvs = [] ∧ ds = [] := by
  match tvs, ds, hi with
  | [], [], _ => exact ⟨rfl, rfl⟩
  | _ :: _, _, hi => exact hi.elim
  | [], _ :: _, hi => exact hi.elim
/-- an argument that is one cell -/
theorem in_cell {H : Type} {P : Program} {h : Heap} {k : Nat} {t : TypeId} {tv : TV} {d : DataW H} (ha : Go.Abs.isAgg P t = false) (hi : In1 P h k t tv d) : ∃ xs, View P h k t xs d ∧ tv = tvOf false xs := by
  obtain ⟨xs, h1, h2⟩ := hi
  exact ⟨xs, h1, by rw [h2, ha]⟩

theorem in_num {H : Type} {k : Nat} {t : TypeId} {q : IntKind} {tv : TV} {d : DataW H} {h : Heap} (ha : Go.Abs.isAgg Try.prog t = false) (hu : Try.prog.underlying t = some (.int q)) (hi : In1 Try.prog h (k + 1) t tv d) : ∃ n : Int, tv = [.sc (.int q n)] ∧ (Lit.int q n).wf = true := by
  obtain ⟨xs, hv, rfl⟩ := in_cell ha hi
  obtain ⟨n, rfl, hw, _⟩ := View.int hu hv
  exact ⟨n, rfl, hw⟩
theorem in_bool {H : Type} {k : Nat} {t : TypeId} {tv : TV} {d : DataW H} {h : Heap} (ha : Go.Abs.isAgg Try.prog t = false) (hu : Try.prog.underlying t = some .bool) (hi : In1 Try.prog h (k + 1) t tv d) : ∃ b : Bool, tv = [.sc (.bool b)] := by
  obtain ⟨xs, hv, rfl⟩ := in_cell ha hi
  obtain ⟨n, rfl, _⟩ := View.bool hu hv
  exact ⟨n, rfl⟩
theorem in_int {H : Type} {k : Nat} {tv : TV} {d : DataW H} {h : Heap} (hi : In1 Try.prog h (k + 1) 3 tv d) : ∃ n : Int, tv = [.sc (.int .i64 n)] ∧ -9223372036854775808 ≤ n ∧ n < 9223372036854775808 := by
  obtain ⟨n, h1, h2⟩ := in_num (by kernel_rfl) (by kernel_rfl) hi
  exact ⟨n, h1, wf_i64 h2⟩

theorem in_wide {H : Type} {k : Nat} {tv : TV} {d : DataW H} {h : Heap} (hi : In1 Try.prog h (k + 2) 24 tv d) : ∃ n : Int, tv = [W n] ∧ InW n := by
  obtain ⟨xs, hv, rfl⟩ := hi
  obtain ⟨parts, rfl, hl, hp, hf⟩ := View.fields (L := [(2, 0, 1), (22, 1, 1)]) (n := 2) (by kernel_rfl) (by kernel_rfl) hv
  have ha : Go.Abs.isAgg Try.prog 24 = true := by kernel_rfl
  match xs, hl, parts, hp with
  | [x, y], _, [p, q], _ =>
    have f0 := hf 0 _ _ rfl rfl
    have f1 := hf 1 _ _ rfl rfl
    obtain ⟨a, h1, h2, _⟩ := View.int (by kernel_rfl : Try.prog.underlying 2 = some (.int .i64)) f0
    obtain ⟨b, h3, h4, _⟩ := View.int (by kernel_rfl : Try.prog.underlying 22 = some (.int .u64)) f1
    simp at h1 h3
    subst h1 h3
    have h2 := wf_i64 h2
    have h4 := wf_u64 h4
    refine ⟨a * 18446744073709551616 + b, ?_, by unfold InW; omega⟩
    rw [ha, W_eq (hi := a) (lo := b) h4.1 h4.2 rfl]
    rfl
end Go.Proofs.Ytdodhmidhcpnnaa
