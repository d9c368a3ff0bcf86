/-
  The statement of DecParses of the given rows: whatever the input, the call returns true and its arguments read as before.
-/
import Derived.Test.YtdodhmidhcpnnaaRows
import Derived.Test.YtdodhmidhcpnnaaWDecParses
namespace Go.Proofs.Ytdodhmidhcpnnaa.lawDecParses
set_option linter.unusedVariables false
open Go.ChangeShapes Go.WideShapes Go.ChangeAt Go.RowKit

theorem own : ownKnob Try.prog.godebug = none := by kernel_rfl
theorem laidOut : laidOutB Try.prog = true := by kernel_rfl
theorem readable : Try.f14.params.toList.all (fun t => Try.prog.readableRec t && decide (t < Try.prog.types.size)) = true := by kernel_rfl
theorem plains : Try.f14.params.toList.all (Go.Abs.plain Try.prog 6) = true := by kernel_rfl
theorem answers : Try.f14.resultTypes = #[4] := by kernel_rfl
theorem shaped {H : Type} : ∀ ds : List (DataW H), ds.length = 4 → (Rows.decParsesSpec.fn H ds).results = [.lit (.bool true)] ∧ (Rows.decParsesSpec.fn H ds).args = ds ∧ (Rows.decParsesSpec.fn H ds).vars = []
  | [d1, d2, d3, d4], _ => ⟨rfl, rfl, rfl⟩

set_option maxRecDepth 100000 in
theorem contract (H : Type) (enc : TypeId × Value → H) (W : World) (base : Nat) (args : Array Value) (ds gs : List (DataW H)) (before : List MemPlace)
    (hval : ∀ (j : Nat) t v, Try.f14.params[j]? = some t → args[j]? = some v → Value.okWide Try.prog W .any base t v)
    (hW : DataW.Whole enc Try.prog Try.f14.params.toList Rows.decParsesSpec.vars false W args.toList ds gs before) (hz : (DataW.weightsEach Try.prog (Try.f14.params.toList ++ Rows.decParsesSpec.plain.varTypes Try.prog) (ds ++ gs)).all (· ≤ reachBytes) = true) :
    Calls Try.prog 14 args W fun e W' => ∃ v, e = .returned v ∧ Rows.decParsesSpec.post enc Try.prog Try.f14 false true false false W args v W' := by
  have hW' := hW
  obtain ⟨p, q, hA0, hV, rfl, hfz, hnd⟩ := hW
  have hA : DataW.TrodAll enc Try.prog W 0 (fun _ => true) true Try.f14.params.toList args.toList ds p := hA0
  obtain ⟨rfl, rfl⟩ := trodVars_none hV
  have hz2 : (DataW.weightsEach Try.prog [9, 60, 3, 4] ds).all (· ≤ reachBytes) = true := by
    rw [show Rows.decParsesSpec.plain.varTypes Try.prog = [] from rfl, List.append_nil, List.append_nil, Try.params14] at hz
    exact hz
  have post : ∀ W', Below W.heap.size W W' → Rows.decParsesSpec.post enc Try.prog Try.f14 false true false false W args (.bool true) W' := fun W' hb =>
    Go.Abs.law_post laidOut readable rfl answers Try.underlying4 (fun ds h => shaped ds (by rw [h, Try.params14]; rfl)) hW' hb
  refine (Go.Abs.law_enter funsOk orcOk mixed (k := 5) hA (fun j t v ht hv => hval j t v (by simpa using ht) hv) plains (fun h tvs hr hi => core h tvs ds hr (by rw [Try.params14] at hi; exact hi) hz2)).mono fun e W' ⟨he, hb⟩ => ?_
  exact ⟨_, he, post W' hb⟩

set_option maxRecDepth 100000 in
theorem lifted (os : Os) (started : os.Started) (H : Type) (enc : TypeId × Value → H) :
    ReturnsInHanded {} Try.checked os 14 .any (Rows.decParsesSpec.pre6 enc Try.prog Try.f14 Rows.decParsesRow.domain false) (Rows.decParsesSpec.post enc Try.prog Try.f14 false true false false) := by
  refine returnsInHanded_of_change_sized (C := Try.checked) own started (by kernel_rfl) Try.func14
    (ChangeSpec.witness6 (enc := enc) (C := Try.checked) false ⟨#[], #[.string ⟨#[]⟩, .slice none 0 0, .int .i64 0, .bool false], []⟩ 8 (by kernel_rfl) (by kernel_rfl) (by kernel_rfl) (by kernel_rfl)) ?_
  intro W base args ds gs before hval hW _ hz _
  exact contract H enc W base args ds gs before hval hW hz

theorem named : Try.pinned.checked.prog.funcNamed Rows.decParsesRow.func = some 14 := by kernel_rfl
theorem facts : joinedFacts Try.pinned.checked.prog 14 Try.f14 Rows.decParsesSpec Rows.decParsesRow = true := by kernel_rfl

theorem proved : Rows.DecParsesSaid :=
  OpenClaim.holds_of_wide 14 Try.f14 rfl rfl rfl rfl rfl rfl rfl ⟨rfl, rfl, rfl, rfl, rfl⟩ rfl rfl rfl rfl rfl named Try.func14 facts
    (of_decide_eq_true (by kernel_rfl)) (by unfold Func.isWrapper; first | (rw [if_pos (by decide +kernel)]; kernel_rfl) | (rw [if_neg (by decide +kernel)]; exact ⟨rfl, rfl⟩))
    (fun os started H enc _ => lifted os started H enc)
end Go.Proofs.Ytdodhmidhcpnnaa.lawDecParses
