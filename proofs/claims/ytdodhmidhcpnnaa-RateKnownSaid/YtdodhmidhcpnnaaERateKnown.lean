/-
  The statement of RateKnown of the given rows: whatever the input, the call returns true and its arguments read as before.
-/
import Derived.Test.YtdodhmidhcpnnaaRows
import Derived.Test.YtdodhmidhcpnnaaWRateKnown
namespace Go.Proofs.Ytdodhmidhcpnnaa.lawRateKnown
open Go.ChangeShapes Go.WideShapes Go.ChangeAt Go.RowKit

theorem own : ownKnob Try.prog.godebug = none := by kernel_rfl
theorem laidOut : laidOutB Try.prog = true := by kernel_rfl
theorem readable : Try.f6.params.toList.all (fun t => Try.prog.readableRec t && decide (t < Try.prog.types.size)) = true := by kernel_rfl
theorem answers : Try.f6.resultTypes = #[4] := by kernel_rfl
theorem shaped {H : Type} : ∀ ds : List (DataW H), ds.length = 0 → (Rows.rateKnownSpec.fn H ds).results = [.lit (.bool true)] ∧ (Rows.rateKnownSpec.fn H ds).args = ds ∧ (Rows.rateKnownSpec.fn H ds).vars = []
  | [], _ => ⟨rfl, rfl, rfl⟩

theorem contract (H : Type) (enc : TypeId × Value → H) (W : World) (base : Nat) (args : Array Value) (ds gs : List (DataW H)) (before : List MemPlace)
    (hval : ∀ (j : Nat) t v, Try.f6.params[j]? = some t → args[j]? = some v → Value.okWide Try.prog W .any base t v)
    (hW : DataW.Whole enc Try.prog Try.f6.params.toList Rows.rateKnownSpec.vars false W args.toList ds gs before) :
    Calls Try.prog 6 args W fun e W' => ∃ v, e = .returned v ∧ Rows.rateKnownSpec.post enc Try.prog Try.f6 false true false false W args v W' := by
  have hW' := hW
  obtain ⟨p, q, hA0, hV, rfl, hfz, hnd⟩ := hW
  have hA : DataW.TrodAll enc Try.prog W 0 (fun _ => true) true Try.f6.params.toList args.toList ds p := hA0
  obtain ⟨rfl, rfl⟩ := trodVars_none hV
  have hlt : ∀ x ∈ p, x.block < W.heap.size := fun x hx => hW'.lt x (List.mem_append_left _ hx)
  have post : ∀ W', Below W.heap.size W W' → Rows.rateKnownSpec.post enc Try.prog Try.f6 false true false false W args (.bool true) W' := fun W' hb =>
    Go.Abs.law_post laidOut readable rfl answers Try.underlying4 (fun ds h => shaped ds (by rw [h, Try.params6]; rfl)) hW' hb
  rw [Try.params6] at hA hval
  obtain ⟨hv, rfl, rfl⟩ := trodAll_nil hA
  obtain rfl : args = #[] := by cases args; simp_all
  refine (core W).mono fun e W' ⟨he, hb⟩ => ?_
  exact ⟨_, he, post W' hb⟩

set_option maxRecDepth 100000 in
theorem lifted (os : Os) (started : os.Started) (H : Type) (enc : TypeId × Value → H) :
    ReturnsInHanded {} Try.checked os 6 .any (Rows.rateKnownSpec.pre6 enc Try.prog Try.f6 Rows.rateKnownRow.domain false) (Rows.rateKnownSpec.post enc Try.prog Try.f6 false true false false) := by
  refine returnsInHanded_of_change (C := Try.checked) own started (by kernel_rfl) Try.func6
    (ChangeSpec.witness6 (enc := enc) (C := Try.checked) false ⟨#[], #[], []⟩ 8 (by kernel_rfl) (by kernel_rfl) (by kernel_rfl) (by kernel_rfl)) ?_
  intro W base args ds gs before hval hW _ _
  exact contract H enc W base args ds gs before hval hW

theorem named : Try.pinned.checked.prog.funcNamed Rows.rateKnownRow.func = some 6 := by kernel_rfl
theorem facts : joinedFacts Try.pinned.checked.prog 6 Try.f6 Rows.rateKnownSpec Rows.rateKnownRow = true := by kernel_rfl

theorem proved : Rows.RateKnownSaid :=
  OpenClaim.holds_of_wide 6 Try.f6 rfl rfl rfl rfl rfl rfl rfl ⟨rfl, rfl, rfl, rfl, rfl⟩ rfl rfl rfl rfl rfl named Try.func6 facts
    (of_decide_eq_true (by kernel_rfl)) (by unfold Func.isWrapper; first | (rw [if_pos (by decide +kernel)]; kernel_rfl) | (rw [if_neg (by decide +kernel)]; exact ⟨rfl, rfl⟩))
    (fun os started H enc _ => lifted os started H enc)
end Go.Proofs.Ytdodhmidhcpnnaa.lawRateKnown
