/-
  The statement of CmdSpoilt of the given rows: whatever the input, the call returns true and its arguments read as before, where the listed table reads as listed; and its tied card.
-/
import Derived.Test.YtoghoddofokekaaDoorRows
import Derived.Test.YtoghoddofokekaaDoorCards
import Derived.Test.YtoghoddofokekaaDoorTie
import Derived.Test.YtoghoddofokekaaDoorL1
import Derived.Test.YtoghoddofokekaaDoorWCmdSpoilt
import Derived.SevenTiedAt
namespace Go.Proofs.YtoghoddofokekaaDoor.lawCmdSpoilt
set_option linter.unusedVariables false
open Go.ChangeShapes Go.WideShapes Go.ChangeAt Go.RowKit

theorem own : ownKnob Tryd.prog.godebug = none := by kernel_rfl
theorem laidOut : laidOutB Tryd.prog = true := by kernel_rfl
theorem readable : Tryd.f5.params.toList.all (fun t => Tryd.prog.readableRec t && decide (t < Tryd.prog.types.size)) = true := by kernel_rfl
theorem plains : Tryd.f5.params.toList.all (Go.Abs.plain Tryd.prog 6) = true := by kernel_rfl
theorem answers : Tryd.f5.resultTypes = #[4] := by kernel_rfl
theorem shaped {H : Type} : ∀ ds : List (DataW H), ds.length = 4 → (Rows.cmdSpoiltSpec.fn H ds).results = [.lit (.bool true)] ∧ (Rows.cmdSpoiltSpec.fn H ds).args = ds ∧ (Rows.cmdSpoiltSpec.fn H ds).vars = []
  | [d1, d2, d3, d4], _ => ⟨rfl, rfl, rfl⟩

set_option maxRecDepth 100000 in
theorem contract (H : Type) (enc : TypeId × Value → H) (W : World) (base : Nat) (args : Array Value) (ds gs : List (DataW H)) (before : List MemPlace)
    (hval : ∀ (j : Nat) t v, Tryd.f5.params[j]? = some t → args[j]? = some v → Value.okWide Tryd.prog W .any base t v)
    (hW : DataW.Whole enc Tryd.prog Tryd.f5.params.toList Rows.cmdSpoiltSpec.vars false W args.toList ds gs before) (gw : Go.Abs.GW W.heap.size W) :
    Calls Tryd.prog 5 args W fun e W' => ∃ v, e = .returned v ∧ Rows.cmdSpoiltSpec.post enc Tryd.prog Tryd.f5 false true false false W args v W' := by
  have hW' := hW
  obtain ⟨p, q, hA0, hV, rfl, hfz, hnd⟩ := hW
  have hA : DataW.TrodAll enc Tryd.prog W 0 (fun _ => true) true Tryd.f5.params.toList args.toList ds p := hA0
  obtain ⟨rfl, rfl⟩ := trodVars_none hV
  have post : ∀ W', Below W.heap.size W W' → Rows.cmdSpoiltSpec.post enc Tryd.prog Tryd.f5 false true false false W args (.bool true) W' := fun W' hb =>
    Go.Abs.law_post laidOut readable rfl answers Tryd.underlying4 (fun ds h => shaped ds (by rw [h, Tryd.params5]; rfl)) hW' hb
  refine (Go.Abs.law_enter funsOk orcOk mixed (k := 5) hA (fun j t v ht hv => hval j t v (by simpa using ht) hv) plains gw (fun h tvs hr hi => core h tvs ds hr (by rw [Tryd.params5] at hi; exact hi))).mono fun e W' ⟨he, hb⟩ => ?_
  exact ⟨_, he, post W' hb⟩

set_option maxRecDepth 100000 in
theorem lifted (os : Os) (started : os.Started) (H : Type) (enc : TypeId × Value → H) :
    ReturnsInHanded {} Tryd.checked os 5 .any (fun w args => (Rows.cmdSpoiltSpec.pre enc Tryd.prog Tryd.f5 [] false w args ∧ laidMetH Tryd.prog laid1 w) ∧ sizedMet enc Tryd.prog Tryd.f5 (OpenSpec.ofChange Rows.cmdSpoiltSpec) false w args)
      (Rows.cmdSpoiltSpec.post enc Tryd.prog Tryd.f5 false true false false) := by
  refine returnsInHanded_of_change_and (C := Tryd.checked) (X := fun w _ => laidMetH Tryd.prog laid1 w) (fun _ _ _ hh h => h.of_heap hh) own started (by kernel_rfl) Tryd.func5
    (ChangeSpec.witness_shaped (enc := enc) (C := Tryd.checked) (os := os) (X := fun w _ => laidMetH Tryd.prog laid1 w) false (World.doorLaid Tryd.prog 400 os) #[.agg #[.int .i64 0, .int .u64 0, .int .u64 0, .int .u64 0, .int .u64 0, .int .i64 0, .int .u64 0, .int .i64 0, .string ⟨#[]⟩, .string ⟨#[]⟩], .int .i64 0, .int .i64 0, .int .i64 0] 8 rfl (World.shaped_of_RefB (by kernel_rfl) (by kernel_rfl)) (by kernel_rfl) (by kernel_rfl) (by kernel_rfl) (door_met os _)) ?_
  intro W base args ds gs before hval hW _ _ hL _
  exact contract H enc W base args ds gs before hval hW (of_laid hL)

theorem named : Tryd.pinned.checked.prog.funcNamed Rows.cmdSpoiltRow.func = some 5 := by kernel_rfl
theorem facts : joinedFacts Tryd.pinned.checked.prog 5 Tryd.f5 Rows.cmdSpoiltSpec Rows.cmdSpoiltRow = true := by kernel_rfl

theorem holds : Rows.CmdSpoiltSaid :=
  OpenClaim.holds_of_wide 5 Tryd.f5 rfl rfl rfl rfl rfl rfl rfl ⟨rfl, rfl, rfl, rfl, rfl⟩ rfl rfl rfl rfl rfl named Tryd.func5 facts
    (of_decide_eq_true (by kernel_rfl)) (by unfold Func.isWrapper; first | (rw [if_pos (by decide +kernel)]; kernel_rfl) | (rw [if_neg (by decide +kernel)]; exact ⟨rfl, rfl⟩))
    (fun os started H enc _ => lifted os started H enc)

theorem proved : Rows.CmdSpoiltCardSaid :=
  Claim7.holds_tied_plain_at .later [] [.data] true (true, "aa5ba140051948d435988e917922c05d0975744578d563254d246aec689d5ae7") false
    holds (fun _ h => by cases h) (by kernel_rfl) (fun _ h => by cases h) cmdSpoilt_row_tie rfl ⟨rfl, rfl⟩ (by kernel_rfl) rfl
    (fun f fn hf hfn => by
      obtain rfl : f = 5 := Option.some.inj ((show Tryd.prog.funcNamed "bursar/bursarlaw5.CmdSpoilt" = some 5 by kernel_rfl).symm.trans hf) |>.symm
      obtain rfl : fn = Tryd.f5 := (Option.some.inj (Tryd.func5.symm.trans hfn)).symm
      exact ⟨by kernel_rfl, fun j t ht => by
        rw [Tryd.params5] at ht
        have hm : t ∈ [28, 3, 3, 3] := by simpa using Array.mem_of_getElem? ht
        have hall : ([28, 3, 3, 3].all fun u => !Tryd.prog.wantsStandIn u) = true := by kernel_rfl
        exact (show Tryd.prog.wantsStandIn t = false by simpa using List.all_eq_true.1 hall t hm)⟩)
    (by kernel_rfl)
end Go.Proofs.YtoghoddofokekaaDoor.lawCmdSpoilt
