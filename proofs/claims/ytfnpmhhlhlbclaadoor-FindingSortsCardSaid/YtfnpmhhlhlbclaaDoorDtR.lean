/- For any two findings, the law FindingTells returns true and leaves its arguments as they were: Compare, Key and Check are as by definition. -/
import Derived.Test.YtfnpmhhlhlbclaaDoorDtQ
import Derived.Test.YtfnpmhhlhlbclaaDoorCards
import Derived.Test.YtfnpmhhlhlbclaaDoorTie
import Derived.WalkKit
import Derived.Deep.DeepHandedRow
namespace Go.Proofs.YtfnpmhhlhlbclaaDoor
open Go.ChangeShapes Go.WideShapes Go.ChangeAt Go.RowKit Go.Ex
set_option maxRecDepth 100000

theorem own : ownKnob Tryd.prog.godebug = none := by kernel_rfl
def litCell : DataW Unit → Value
  | .lit (.int k n) => .int k n
  | .lit (.string b) => .string ⟨b.toArray⟩
  | _ => undef
def litCells : DataW Unit → Array Value
  | .agg l => (l.map litCell).toArray
  | _ => #[]
def layIn (cs : Array Value) : Obj → Obj
  | .cells _ t frozen => .cells cs t frozen
  | o => o
/-- a world for the witness -/
noncomputable def laidWorld (os : Os) : World :=
  { World.holding Tryd.prog os ⟨#[], #[], []⟩ with heap := ((((World.holding Tryd.prog os ⟨#[], #[], []⟩).heap.modify 0 (layIn (litCells Rows.laid_dataflow_lex_keywords))).modify 1 (layIn (litCells Rows.laid_internal_strconv_uint64pow10))).modify 2 (layIn (litCells Rows.laid_math_bits_deBruijn32tab))).modify 3 (layIn (litCells Rows.laid_math_bits_deBruijn64tab)) }
def wit : Value := .agg #[.int .i64 0, .string ⟨#[]⟩, .string ⟨#[]⟩, .int .i64 0, .string ⟨#[]⟩, .slice none 0 0]
def witD {H : Type} : DataW H := .agg [.lit (.int .i64 0), .agg [.lit (.string []), .lit (.string []), .lit (.int .i64 0)], .lit (.string []), .nil]
theorem laid_met (os : Os) : laidMet Tryd.prog Rows.findingTellsRow.laid ((laidWorld os).forCall (fun _ _ => 0) ⟨#[], #[wit, wit], []⟩).memory :=
  laidMet_of_run' 8 (by kernel_rfl) (by kernel_rfl)
theorem reads (os : Os) {H : Type} (enc : TypeId × Value → H) : ∃ places, DataW.whole enc Tryd.prog ((laidWorld os).forCall (fun _ _ => 0) ⟨#[], #[wit, wit], []⟩).memory Tryd.f3.params.toList Rows.findingTellsSpec.vars false #[wit, wit].toList 8 = some ([witD, witD], [], places) :=
  ⟨[], by kernel_rfl⟩
theorem lifted (os : Os) (started : os.Started) (H : Type) (enc : TypeId × Value → H) (F : Stop.Interp) :
    ReturnsInHanded {} Tryd.checked os 3 .any ((OpenSpec.ofChange Rows.findingTellsSpec).preRow enc Tryd.prog Tryd.f3 Rows.findingTellsRow.domain false Rows.findingTellsRow.laid) (((OpenSpec.ofChange Rows.findingTellsSpec).at F).post enc Tryd.prog Tryd.f3 false true false false) := by
  obtain ⟨places, hx⟩ := reads os enc
  refine returnsInHanded_of_row (C := Tryd.checked) (s := OpenSpec.ofChange Rows.findingTellsSpec) own started (by kernel_rfl) Tryd.func3
    (witness_row_at (enc := enc) (C := Tryd.checked) false (laidWorld os) #[wit, wit] rfl (by kernel_rfl) (by kernel_rfl) (by kernel_rfl)
      (OpenSpec.preRow_of_cond 8 hx (by kernel_rfl) (fun k hk => by cases hk) (by kernel_rfl) (laid_met os))) ?_
  intro W base args ds gs before hval hW _ _ hz hL _ _
  have hW2 : DataW.Whole enc Tryd.prog Tryd.f3.params.toList Rows.findingTellsSpec.vars false W args.toList ds gs before := hW
  have hgs : gs = [] := by
    obtain ⟨_, _, _, hV, _⟩ := hW2
    exact (trodVars_none hV).1
  have hz' : (DataW.weightsEach Tryd.prog [26, 26] ds).all (fun n => decide (n ≤ reachBytes)) = true := by
    subst hgs
    rw [List.append_nil] at hz
    exact hz
  exact two_law 3 Tryd.f3 (by kernel_rfl) (by kernel_rfl) Rows.findingTellsSpec rfl (fun _ _ => rfl) (fun f f' h _ => s3 f f' h) W base args ds gs before hval hW2 hz' hL
theorem findingTells_said : Rows.FindingTellsSaid :=
  OpenClaim.holds_of_cond 3 Tryd.f3 rfl rfl rfl rfl rfl rfl rfl ⟨rfl, rfl, rfl, rfl, rfl⟩ rfl rfl rfl rfl rfl (by kernel_rfl) Tryd.func3 (by kernel_rfl)
    (of_decide_eq_true (by kernel_rfl)) (by unfold Func.isWrapper; first | (rw [if_pos (by decide +kernel)]; kernel_rfl) | (rw [if_neg (by decide +kernel)]; exact ⟨rfl, rfl⟩))
    (fun os started H enc _ F => by rw [OpenClaim.pre_eq_preRow]; exact lifted os started H enc F)
theorem plain (f : FuncId) (fn : Func) (hf : Tryd.pinned.checked.prog.funcNamed "dataflow/dataflowlaw45.FindingTells" = some f) (hfn : Tryd.pinned.checked.prog.funcs[f]? = some fn) :
    false = Tryd.pinned.checked.prog.looks [] ∧ ∀ (j : Nat) t, fn.params[j]? = some t → Tryd.pinned.checked.prog.wantsStandIn t = false := by
  obtain rfl : f = 3 := Option.some.inj ((show Tryd.prog.funcNamed "dataflow/dataflowlaw45.FindingTells" = some 3 by kernel_rfl).symm.trans hf) |>.symm
  obtain rfl : fn = Tryd.f3 := (Option.some.inj (Tryd.func3.symm.trans hfn)).symm
  refine ⟨by kernel_rfl, fun j t ht => ?_⟩
  have hp : Tryd.f3.params = #[26, 26] := by kernel_rfl
  rw [hp] at ht
  obtain rfl : t = 26 := by simpa using Array.mem_of_getElem? ht
  exact (show Tryd.prog.wantsStandIn 26 = false by kernel_rfl)
/-- the card -/
theorem findingTells_card : Rows.FindingTellsCardSaid :=
  Claim7.holds_tied_plain_at .later [] _ _ _ _ findingTells_said (fun _ h => by cases h) (by kernel_rfl) (fun _ h => by cases h) findingTells_row_tie rfl ⟨rfl, rfl⟩ (by kernel_rfl) rfl plain (by kernel_rfl)
end Go.Proofs.YtfnpmhhlhlbclaaDoor
