/- For any two findings, the law FindingKeys returns true and leaves its arguments as they were: of two valid findings the keys are equal exactly if Kind, At and What are. -/
import Derived.Test.YtfnpmhhlhlbclaaDoorDtR
namespace Go.Proofs.YtfnpmhhlhlbclaaDoor
open Go.ChangeShapes Go.WideShapes Go.ChangeAt Go.RowKit Go.Ex
set_option maxRecDepth 100000
theorem keys_reads (os : Os) {H : Type} (enc : TypeId × Value → H) : ∃ places, DataW.whole enc Tryd.prog ((laidWorld os).forCall (fun _ _ => 0) ⟨#[], #[wit, wit], []⟩).memory Tryd.f6.params.toList Rows.findingKeysSpec.vars false #[wit, wit].toList 8 = some ([witD, witD], [], places) :=
  ⟨[], by kernel_rfl⟩
theorem keys_lifted (os : Os) (started : os.Started) (H : Type) (enc : TypeId × Value → H) (F : Stop.Interp) :
    ReturnsInHanded {} Tryd.checked os 6 .any ((OpenSpec.ofChange Rows.findingKeysSpec).preRow enc Tryd.prog Tryd.f6 Rows.findingKeysRow.domain false Rows.findingKeysRow.laid) (((OpenSpec.ofChange Rows.findingKeysSpec).at F).post enc Tryd.prog Tryd.f6 false true false false) := by
  obtain ⟨places, hx⟩ := keys_reads os enc
  refine returnsInHanded_of_row (C := Tryd.checked) (s := OpenSpec.ofChange Rows.findingKeysSpec) own started (by kernel_rfl) Tryd.func6
    (witness_row_at (enc := enc) (C := Tryd.checked) false (laidWorld os) #[wit, wit] rfl (by kernel_rfl) (by kernel_rfl) (by kernel_rfl)
      (OpenSpec.preRow_of_cond 8 hx (by kernel_rfl) (fun k hk => by cases hk) (by kernel_rfl) (laid_met os))) ?_
  intro W base args ds gs before hval hW _ _ hz hL _ _
  have hW2 : DataW.Whole enc Tryd.prog Tryd.f6.params.toList Rows.findingKeysSpec.vars false W args.toList ds gs before := hW
  have hgs : gs = [] := by
    obtain ⟨_, _, _, hV, _⟩ := hW2
    exact (trodVars_none hV).1
  have hz' : (DataW.weightsEach Tryd.prog [26, 26] ds).all (fun n => decide (n ≤ reachBytes)) = true := by
    subst hgs
    rw [List.append_nil] at hz
    exact hz
  exact two_law 6 Tryd.f6 (by kernel_rfl) (by kernel_rfl) Rows.findingKeysSpec rfl (fun _ _ => rfl) (fun f f' h h' => s6 f f' h h') W base args ds gs before hval hW2 hz' hL
theorem findingKeys_said : Rows.FindingKeysSaid :=
  OpenClaim.holds_of_cond 6 Tryd.f6 rfl rfl rfl rfl rfl rfl rfl ⟨rfl, rfl, rfl, rfl, rfl⟩ rfl rfl rfl rfl rfl (by kernel_rfl) Tryd.func6 (by kernel_rfl)
    (of_decide_eq_true (by kernel_rfl)) (by unfold Func.isWrapper; first | (rw [if_pos (by decide +kernel)]; kernel_rfl) | (rw [if_neg (by decide +kernel)]; exact ⟨rfl, rfl⟩))
    (fun os started H enc _ F => by rw [OpenClaim.pre_eq_preRow]; exact keys_lifted os started H enc F)
theorem keys_plain (f : FuncId) (fn : Func) (hf : Tryd.pinned.checked.prog.funcNamed "dataflow/dataflowlaw45.FindingKeys" = some f) (hfn : Tryd.pinned.checked.prog.funcs[f]? = some fn) :
    false = Tryd.pinned.checked.prog.looks [] ∧ ∀ (j : Nat) t, fn.params[j]? = some t → Tryd.pinned.checked.prog.wantsStandIn t = false := by
  obtain rfl : f = 6 := Option.some.inj ((show Tryd.prog.funcNamed "dataflow/dataflowlaw45.FindingKeys" = some 6 by kernel_rfl).symm.trans hf) |>.symm
  obtain rfl : fn = Tryd.f6 := (Option.some.inj (Tryd.func6.symm.trans hfn)).symm
  refine ⟨by kernel_rfl, fun j t ht => ?_⟩
  have hp : Tryd.f6.params = #[26, 26] := by kernel_rfl
  rw [hp] at ht
  obtain rfl : t = 26 := by simpa using Array.mem_of_getElem? ht
  exact (show Tryd.prog.wantsStandIn 26 = false by kernel_rfl)
/-- the card -/
theorem findingKeys_card : Rows.FindingKeysCardSaid :=
  Claim7.holds_tied_plain_at .later [] _ _ _ _ findingKeys_said (fun _ h => by cases h) (by kernel_rfl) (fun _ h => by cases h) findingKeys_row_tie rfl ⟨rfl, rfl⟩ (by kernel_rfl) rfl keys_plain (by kernel_rfl)
end Go.Proofs.YtfnpmhhlhlbclaaDoor
