/- For any list of findings, the law FindingSorts returns true and leaves its argument as it was: Sort answers the same as by definition, whatever its order. -/
import Derived.Test.YtfnpmhhlhlbclaaDoorDtR
import Derived.Test.YtfnpmhhlhlbclaaDoorDtW
import Derived.Test.YtfnpmhhlhlbclaaDoorGtKS
namespace Go.Proofs.YtfnpmhhlhlbclaaDoor
open Go.ChangeShapes Go.WideShapes Go.ChangeAt Go.RowKit Go.Ex
set_option maxRecDepth 100000
theorem sorts_met (os : Os) : laidMet Tryd.prog Rows.findingSortsRow.laid ((laidWorld os).forCall (fun _ _ => 0) ⟨#[], #[.slice none 0 0], []⟩).memory :=
  laidMet_of_run' 8 (by kernel_rfl) (by kernel_rfl)
theorem sorts_reads (os : Os) {H : Type} (enc : TypeId × Value → H) : ∃ places, DataW.whole enc Tryd.prog ((laidWorld os).forCall (fun _ _ => 0) ⟨#[], #[.slice none 0 0], []⟩).memory Tryd.f4.params.toList Rows.findingSortsSpec.vars false #[Value.slice none 0 0].toList 8 = some ([.nil], [], places) :=
  ⟨[], by kernel_rfl⟩
theorem sorts_lifted (os : Os) (started : os.Started) (H : Type) (enc : TypeId × Value → H) (F : Stop.Interp) :
    ReturnsInHanded {} Tryd.checked os 4 .any ((OpenSpec.ofChange Rows.findingSortsSpec).preRow enc Tryd.prog Tryd.f4 Rows.findingSortsRow.domain false Rows.findingSortsRow.laid) (((OpenSpec.ofChange Rows.findingSortsSpec).at F).post enc Tryd.prog Tryd.f4 false true false false) := by
  obtain ⟨places, hx⟩ := sorts_reads os enc
  refine returnsInHanded_of_row (C := Tryd.checked) (s := OpenSpec.ofChange Rows.findingSortsSpec) own started (by kernel_rfl) Tryd.func4
    (witness_row_at (enc := enc) (C := Tryd.checked) false (laidWorld os) #[.slice none 0 0] rfl (by kernel_rfl) (by kernel_rfl) (by kernel_rfl)
      (OpenSpec.preRow_of_cond 8 hx (by kernel_rfl) (fun k hk => by cases hk) (by kernel_rfl) (sorts_met os))) ?_
  intro W base args ds gs before hval hW _ _ hz hL _ _
  have hW2 : DataW.Whole enc Tryd.prog Tryd.f4.params.toList Rows.findingSortsSpec.vars false W args.toList ds gs before := hW
  have hgs : gs = [] := by
    obtain ⟨_, _, _, hV, _⟩ := hW2
    exact (trodVars_none hV).1
  have hz' : (DataW.weightsEach Tryd.prog [33] ds).all (fun n => decide (n ≤ reachBytes)) = true := by
    subst hgs
    rw [List.append_nil] at hz
    exact hz
  exact one_law 4 Tryd.f4 (by kernel_rfl) (by kernel_rfl) Rows.findingSortsSpec rfl (fun _ => rfl) (fun nl xs h _ => s4 nl xs h) W base args ds gs before hval hW2 hz' hL
theorem findingSorts_said : Rows.FindingSortsSaid :=
  OpenClaim.holds_of_cond 4 Tryd.f4 rfl rfl rfl rfl rfl rfl rfl ⟨rfl, rfl, rfl, rfl, rfl⟩ rfl rfl rfl rfl rfl (by kernel_rfl) Tryd.func4 (by kernel_rfl)
    (of_decide_eq_true (by kernel_rfl)) (by unfold Func.isWrapper; first | (rw [if_pos (by decide +kernel)]; kernel_rfl) | (rw [if_neg (by decide +kernel)]; exact ⟨rfl, rfl⟩))
    (fun os started H enc _ F => by rw [OpenClaim.pre_eq_preRow]; exact sorts_lifted os started H enc F)
theorem sorts_plain (f : FuncId) (fn : Func) (hf : Tryd.pinned.checked.prog.funcNamed "dataflow/dataflowlaw45.FindingSorts" = some f) (hfn : Tryd.pinned.checked.prog.funcs[f]? = some fn) :
    false = Tryd.pinned.checked.prog.looks [] ∧ ∀ (j : Nat) t, fn.params[j]? = some t → Tryd.pinned.checked.prog.wantsStandIn t = false := by
  obtain rfl : f = 4 := Option.some.inj ((show Tryd.prog.funcNamed "dataflow/dataflowlaw45.FindingSorts" = some 4 by kernel_rfl).symm.trans hf) |>.symm
  obtain rfl : fn = Tryd.f4 := (Option.some.inj (Tryd.func4.symm.trans hfn)).symm
  refine ⟨by kernel_rfl, fun j t ht => ?_⟩
  have hp : Tryd.f4.params = #[33] := by kernel_rfl
  rw [hp] at ht
  obtain rfl : t = 33 := by simpa using Array.mem_of_getElem? ht
  exact (show Tryd.prog.wantsStandIn 33 = false by kernel_rfl)
/-- the card -/
theorem findingSorts_card : Rows.FindingSortsCardSaid :=
  Claim7.holds_tied_plain_at .later [] _ _ _ _ findingSorts_said (fun _ h => by cases h) (by kernel_rfl) (fun _ h => by cases h) findingSorts_row_tie rfl ⟨rfl, rfl⟩ (by kernel_rfl) rfl sorts_plain (by kernel_rfl)
end Go.Proofs.YtfnpmhhlhlbclaaDoor
