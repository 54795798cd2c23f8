/-
  NARROWER THAN 'FOR EVERY INPUT', by the rows' own cells (each row's printed sentence says how): FindingTells: laid · FindingSorts: laid · FindingOrder: laid · FindingKeys: laid.
  DERIVED. THE GIVEN ROWS OF THIS SEAT. 4 by the template 'for every input the law returns true; each argument reads behind the call as it read before'; 0 by the template 'total and deterministic' (their statements: YtfnpmhhlhlbclaaDoorTotals.lean).
  GIVEN WITH THE SEED: the statements are not yours to turn. If you find one false, say at which input.
  Laid BY PROGRAM, IN A SANDBOX (cutbox-rows.mjs): the forced cells as the released guide's own fill.sh prints them over the translation b78d2142eb6f418a… (all of the seat's roots in one cut). By AI agents, Wed Nov 11 2026. No macro, syntax, notation, axiom, sorry.
-/
import Derived.Test.YtfnpmhhlhlbclaaDoorChecked
import GoSem.Claim
import GoSem.ClaimJoined
import GoSem.ClaimMapViews
import Derived.JoinedTies
import Derived.KernelRfl
namespace Go.Proofs.YtfnpmhhlhlbclaaDoor
/- THE CELL 'sum', in the pinned program and in every row, IS THE sha256 OF THE DUMP (.gsa) THAT YtfnpmhhlhlbclaaDoorProg.lean LOADS. Nothing in Lean hashes anything: it is a label: what it is worth is what the hold of that sum in a sandbox is worth. -/
noncomputable def Tryd.pinned : Pinned := { name := "ytfnpmhhlhlbclaadoor", sum := "b78d2142eb6f418aeebdf6fe562b522515950aca07bb020c8829f3d20553e31b", checked := Tryd.checked }
namespace Rows
def none {H : Type} : Left H := { results := [], args := [] }

/- WHAT THE LISTED PACKAGE-LEVEL VARIABLES READ AS WHEN THE CALL BEGINS. Each datum BY PROGRAM (the guide's laid-datum.mjs) off the statement by which the dump's own 'gosem.cut.vars' lays the variable. In a bare row this is a premise. The card (YtfnpmhhlhlbclaaDoorCards.lean) ties it to the program's text. -/
def laid_math_bits_deBruijn32tab {H : Type} : DataW H := .agg [.lit (.int .u8 0), .lit (.int .u8 1), .lit (.int .u8 28), .lit (.int .u8 2), .lit (.int .u8 29), .lit (.int .u8 14), .lit (.int .u8 24), .lit (.int .u8 3), .lit (.int .u8 30), .lit (.int .u8 22), .lit (.int .u8 20), .lit (.int .u8 15), .lit (.int .u8 25), .lit (.int .u8 17), .lit (.int .u8 4), .lit (.int .u8 8), .lit (.int .u8 31), .lit (.int .u8 27), .lit (.int .u8 13), .lit (.int .u8 23), .lit (.int .u8 21), .lit (.int .u8 19), .lit (.int .u8 16), .lit (.int .u8 7), .lit (.int .u8 26), .lit (.int .u8 12), .lit (.int .u8 18), .lit (.int .u8 6), .lit (.int .u8 11), .lit (.int .u8 5), .lit (.int .u8 10), .lit (.int .u8 9)]
def laid_math_bits_deBruijn64tab {H : Type} : DataW H := .agg [.lit (.int .u8 0), .lit (.int .u8 1), .lit (.int .u8 56), .lit (.int .u8 2), .lit (.int .u8 57), .lit (.int .u8 49), .lit (.int .u8 28), .lit (.int .u8 3), .lit (.int .u8 61), .lit (.int .u8 58), .lit (.int .u8 42), .lit (.int .u8 50), .lit (.int .u8 38), .lit (.int .u8 29), .lit (.int .u8 17), .lit (.int .u8 4), .lit (.int .u8 62), .lit (.int .u8 47), .lit (.int .u8 59), .lit (.int .u8 36), .lit (.int .u8 45), .lit (.int .u8 43), .lit (.int .u8 51), .lit (.int .u8 22), .lit (.int .u8 53), .lit (.int .u8 39), .lit (.int .u8 33), .lit (.int .u8 30), .lit (.int .u8 24), .lit (.int .u8 18), .lit (.int .u8 12), .lit (.int .u8 5), .lit (.int .u8 63), .lit (.int .u8 55), .lit (.int .u8 48), .lit (.int .u8 27), .lit (.int .u8 60), .lit (.int .u8 41), .lit (.int .u8 37), .lit (.int .u8 16), .lit (.int .u8 46), .lit (.int .u8 35), .lit (.int .u8 44), .lit (.int .u8 21), .lit (.int .u8 52), .lit (.int .u8 32), .lit (.int .u8 23), .lit (.int .u8 11), .lit (.int .u8 54), .lit (.int .u8 26), .lit (.int .u8 40), .lit (.int .u8 15), .lit (.int .u8 34), .lit (.int .u8 20), .lit (.int .u8 31), .lit (.int .u8 10), .lit (.int .u8 25), .lit (.int .u8 14), .lit (.int .u8 19), .lit (.int .u8 9), .lit (.int .u8 13), .lit (.int .u8 8), .lit (.int .u8 7), .lit (.int .u8 6)]
def laid_internal_strconv_uint64pow10 {H : Type} : DataW H := .agg [.lit (.int .u64 1), .lit (.int .u64 10), .lit (.int .u64 100), .lit (.int .u64 1000), .lit (.int .u64 10000), .lit (.int .u64 100000), .lit (.int .u64 1000000), .lit (.int .u64 10000000), .lit (.int .u64 100000000), .lit (.int .u64 1000000000), .lit (.int .u64 10000000000), .lit (.int .u64 100000000000), .lit (.int .u64 1000000000000), .lit (.int .u64 10000000000000), .lit (.int .u64 100000000000000), .lit (.int .u64 1000000000000000), .lit (.int .u64 10000000000000000), .lit (.int .u64 100000000000000000), .lit (.int .u64 1000000000000000000), .lit (.int .u64 10000000000000000000)]
def laid_dataflow_lex_keywords {H : Type} : DataW H := .agg [.lit (.string [99, 108, 97, 115, 115]), .lit (.string [101, 120, 116, 101, 110, 100, 115]), .lit (.string [118, 97, 114]), .lit (.string [100, 101, 102]), .lit (.string [115, 116, 97, 116, 105, 99]), .lit (.string [105, 102]), .lit (.string [101, 108, 115, 101]), .lit (.string [119, 104, 105, 108, 101]), .lit (.string [116, 114, 121]), .lit (.string [99, 97, 116, 99, 104]), .lit (.string [116, 104, 114, 111, 119]), .lit (.string [114, 101, 116, 117, 114, 110]), .lit (.string [110, 101, 119]), .lit (.string [110, 117, 108, 108]), .lit (.string [116, 104, 105, 115]), .lit (.string [105, 110, 112, 117, 116]), .lit (.string [105, 110, 116])]

/-- 'dataflowlaw45.FindingTells': WHATEVER THE INPUT: true; the input reads as it did. -/
def findingTellsSpec : ChangeSpec := { name := "findingTells", fn := fun _ => fun
  | [d1, d2] => { results := [.lit (.bool true)], args := [d1, d2] }
  | _ => none }
def findingTellsRow : OpenClaim := { program := "ytfnpmhhlhlbclaadoor", sum := "b78d2142eb6f418aeebdf6fe562b522515950aca07bb020c8829f3d20553e31b", func := "dataflow/dataflowlaw45.FindingTells", spec := "findingTells", unfollowed := true, recurses := true, named := ["dataflow/lex.keywords", "internal/strconv.uint64pow10", "math/bits.deBruijn32tab", "math/bits.deBruijn64tab"], apart := false, laid := [("math/bits.deBruijn32tab", laid_math_bits_deBruijn32tab), ("math/bits.deBruijn64tab", laid_math_bits_deBruijn64tab), ("internal/strconv.uint64pow10", laid_internal_strconv_uint64pow10), ("dataflow/lex.keywords", laid_dataflow_lex_keywords)] }
def FindingTellsSaid : Prop := findingTellsRow.holds Tryd.pinned (OpenSpec.ofChange findingTellsSpec)

/-- ITS FALSE NEIGHBOUR: 'it returns false'. Refute it at one input. -/
def findingTellsWrong : ChangeSpec := { name := "findingTells", fn := fun _ => fun
  | [d1, d2] => { results := [.lit (.bool false)], args := [d1, d2] }
  | _ => none }
def FindingTellsWrongFalsely : Prop := findingTellsRow.holds Tryd.pinned (OpenSpec.ofChange findingTellsWrong)

/-- 'dataflowlaw45.FindingSorts': WHATEVER THE INPUT: true; the input reads as it did. -/
def findingSortsSpec : ChangeSpec := { name := "findingSorts", fn := fun _ => fun
  | [d] => { results := [.lit (.bool true)], args := [d] }
  | _ => none }
def findingSortsRow : OpenClaim := { program := "ytfnpmhhlhlbclaadoor", sum := "b78d2142eb6f418aeebdf6fe562b522515950aca07bb020c8829f3d20553e31b", func := "dataflow/dataflowlaw45.FindingSorts", spec := "findingSorts", unfollowed := true, recurses := true, named := ["dataflow/lex.keywords", "internal/strconv.uint64pow10", "math/bits.deBruijn32tab", "math/bits.deBruijn64tab"], apart := false, laid := [("math/bits.deBruijn32tab", laid_math_bits_deBruijn32tab), ("math/bits.deBruijn64tab", laid_math_bits_deBruijn64tab), ("internal/strconv.uint64pow10", laid_internal_strconv_uint64pow10), ("dataflow/lex.keywords", laid_dataflow_lex_keywords)] }
def FindingSortsSaid : Prop := findingSortsRow.holds Tryd.pinned (OpenSpec.ofChange findingSortsSpec)

/-- ITS FALSE NEIGHBOUR: 'it returns false'. Refute it at one input. -/
def findingSortsWrong : ChangeSpec := { name := "findingSorts", fn := fun _ => fun
  | [d] => { results := [.lit (.bool false)], args := [d] }
  | _ => none }
def FindingSortsWrongFalsely : Prop := findingSortsRow.holds Tryd.pinned (OpenSpec.ofChange findingSortsWrong)

/-- 'dataflowlaw45.FindingOrder': WHATEVER THE INPUT: true; the input reads as it did. -/
def findingOrderSpec : ChangeSpec := { name := "findingOrder", fn := fun _ => fun
  | [d] => { results := [.lit (.bool true)], args := [d] }
  | _ => none }
def findingOrderRow : OpenClaim := { program := "ytfnpmhhlhlbclaadoor", sum := "b78d2142eb6f418aeebdf6fe562b522515950aca07bb020c8829f3d20553e31b", func := "dataflow/dataflowlaw45.FindingOrder", spec := "findingOrder", unfollowed := true, recurses := true, named := ["dataflow/lex.keywords", "internal/strconv.uint64pow10", "math/bits.deBruijn32tab", "math/bits.deBruijn64tab"], apart := false, laid := [("math/bits.deBruijn32tab", laid_math_bits_deBruijn32tab), ("math/bits.deBruijn64tab", laid_math_bits_deBruijn64tab), ("internal/strconv.uint64pow10", laid_internal_strconv_uint64pow10), ("dataflow/lex.keywords", laid_dataflow_lex_keywords)] }
def FindingOrderSaid : Prop := findingOrderRow.holds Tryd.pinned (OpenSpec.ofChange findingOrderSpec)

/-- ITS FALSE NEIGHBOUR: 'it returns false'. Refute it at one input. -/
def findingOrderWrong : ChangeSpec := { name := "findingOrder", fn := fun _ => fun
  | [d] => { results := [.lit (.bool false)], args := [d] }
  | _ => none }
def FindingOrderWrongFalsely : Prop := findingOrderRow.holds Tryd.pinned (OpenSpec.ofChange findingOrderWrong)

/-- 'dataflowlaw45.FindingKeys': WHATEVER THE INPUT: true; the input reads as it did. -/
def findingKeysSpec : ChangeSpec := { name := "findingKeys", fn := fun _ => fun
  | [d1, d2] => { results := [.lit (.bool true)], args := [d1, d2] }
  | _ => none }
def findingKeysRow : OpenClaim := { program := "ytfnpmhhlhlbclaadoor", sum := "b78d2142eb6f418aeebdf6fe562b522515950aca07bb020c8829f3d20553e31b", func := "dataflow/dataflowlaw45.FindingKeys", spec := "findingKeys", unfollowed := true, recurses := true, named := ["dataflow/lex.keywords", "internal/strconv.uint64pow10", "math/bits.deBruijn32tab", "math/bits.deBruijn64tab"], apart := false, laid := [("math/bits.deBruijn32tab", laid_math_bits_deBruijn32tab), ("math/bits.deBruijn64tab", laid_math_bits_deBruijn64tab), ("internal/strconv.uint64pow10", laid_internal_strconv_uint64pow10), ("dataflow/lex.keywords", laid_dataflow_lex_keywords)] }
def FindingKeysSaid : Prop := findingKeysRow.holds Tryd.pinned (OpenSpec.ofChange findingKeysSpec)

/-- ITS FALSE NEIGHBOUR: 'it returns false'. Refute it at one input. -/
def findingKeysWrong : ChangeSpec := { name := "findingKeys", fn := fun _ => fun
  | [d1, d2] => { results := [.lit (.bool false)], args := [d1, d2] }
  | _ => none }
def FindingKeysWrongFalsely : Prop := findingKeysRow.holds Tryd.pinned (OpenSpec.ofChange findingKeysWrong)

/- THE SECOND FORM. 'bulk': how many values and letters a reading holds, each counted each time it is reached (what is shared counts as often as it is met; a slice's spare places count too). A statement '..UptoSaid' is the law's where the arguments, and the package variables that the reading takes, are together of bulk at most 1048576: NARROWER than '..Said'. Prove '..Said' where nothing that the law and all that it calls make is longer than what came in: it says more and counts as full. Else prove '..UptoSaid'. A law counts once. -/
mutual
def uptoBulk {H : Type} : DataW H → Nat
  | .lit (.string bytes) => bytes.length + 1
  | .lit _ => 1
  | .nil => 1
  | .ptr d => uptoBulk d + 1
  | .slice elems spare => uptoBulkAll elems + uptoBulkAll spare + 1
  | .agg parts => uptoBulkAll parts + 1
  | .iface _ d => uptoBulk d + 1
  | .map entries => uptoBulkEntries entries + 1
  | .held _ => 1
def uptoBulkAll {H : Type} : List (DataW H) → Nat
  | [] => 0
  | d :: r => uptoBulk d + uptoBulkAll r
def uptoBulkEntries {H : Type} : List (Lit × DataW H) → Nat
  | [] => 0
  | x :: r => uptoBulkEntry x + uptoBulkEntries r
def uptoBulkEntry {H : Type} : Lit × DataW H → Nat
  | (.string bytes, d) => bytes.length + uptoBulk d + 1
  | (_, d) => uptoBulk d + 1
 end
def uptoSmall : (H : Type) → List (DataW H) → Bool := fun _ ds => decide (uptoBulkAll ds ≤ 1048576)
def OpenSpec.upto (s : _root_.Go.ChangeSpec) : _root_.Go.OpenSpec := { _root_.Go.OpenSpec.ofChange s with cond := some uptoSmall }

/-- 'dataflowlaw45.FindingTells', WHERE WHAT IT READS IS OF BULK AT MOST 1048576: true; the input reads as it did. -/
def findingTellsUptoRow : OpenClaim := { program := "ytfnpmhhlhlbclaadoor", sum := "b78d2142eb6f418aeebdf6fe562b522515950aca07bb020c8829f3d20553e31b", func := "dataflow/dataflowlaw45.FindingTells", spec := "findingTells", unfollowed := true, recurses := true, named := ["dataflow/lex.keywords", "internal/strconv.uint64pow10", "math/bits.deBruijn32tab", "math/bits.deBruijn64tab"], apart := false, laid := [("math/bits.deBruijn32tab", laid_math_bits_deBruijn32tab), ("math/bits.deBruijn64tab", laid_math_bits_deBruijn64tab), ("internal/strconv.uint64pow10", laid_internal_strconv_uint64pow10), ("dataflow/lex.keywords", laid_dataflow_lex_keywords)], narrowed := true }
def FindingTellsUptoSaid : Prop := findingTellsUptoRow.holds Tryd.pinned (OpenSpec.upto findingTellsSpec)

/-- 'dataflowlaw45.FindingSorts', WHERE WHAT IT READS IS OF BULK AT MOST 1048576: true; the input reads as it did. -/
def findingSortsUptoRow : OpenClaim := { program := "ytfnpmhhlhlbclaadoor", sum := "b78d2142eb6f418aeebdf6fe562b522515950aca07bb020c8829f3d20553e31b", func := "dataflow/dataflowlaw45.FindingSorts", spec := "findingSorts", unfollowed := true, recurses := true, named := ["dataflow/lex.keywords", "internal/strconv.uint64pow10", "math/bits.deBruijn32tab", "math/bits.deBruijn64tab"], apart := false, laid := [("math/bits.deBruijn32tab", laid_math_bits_deBruijn32tab), ("math/bits.deBruijn64tab", laid_math_bits_deBruijn64tab), ("internal/strconv.uint64pow10", laid_internal_strconv_uint64pow10), ("dataflow/lex.keywords", laid_dataflow_lex_keywords)], narrowed := true }
def FindingSortsUptoSaid : Prop := findingSortsUptoRow.holds Tryd.pinned (OpenSpec.upto findingSortsSpec)

/-- 'dataflowlaw45.FindingOrder', WHERE WHAT IT READS IS OF BULK AT MOST 1048576: true; the input reads as it did. -/
def findingOrderUptoRow : OpenClaim := { program := "ytfnpmhhlhlbclaadoor", sum := "b78d2142eb6f418aeebdf6fe562b522515950aca07bb020c8829f3d20553e31b", func := "dataflow/dataflowlaw45.FindingOrder", spec := "findingOrder", unfollowed := true, recurses := true, named := ["dataflow/lex.keywords", "internal/strconv.uint64pow10", "math/bits.deBruijn32tab", "math/bits.deBruijn64tab"], apart := false, laid := [("math/bits.deBruijn32tab", laid_math_bits_deBruijn32tab), ("math/bits.deBruijn64tab", laid_math_bits_deBruijn64tab), ("internal/strconv.uint64pow10", laid_internal_strconv_uint64pow10), ("dataflow/lex.keywords", laid_dataflow_lex_keywords)], narrowed := true }
def FindingOrderUptoSaid : Prop := findingOrderUptoRow.holds Tryd.pinned (OpenSpec.upto findingOrderSpec)

/-- 'dataflowlaw45.FindingKeys', WHERE WHAT IT READS IS OF BULK AT MOST 1048576: true; the input reads as it did. -/
def findingKeysUptoRow : OpenClaim := { program := "ytfnpmhhlhlbclaadoor", sum := "b78d2142eb6f418aeebdf6fe562b522515950aca07bb020c8829f3d20553e31b", func := "dataflow/dataflowlaw45.FindingKeys", spec := "findingKeys", unfollowed := true, recurses := true, named := ["dataflow/lex.keywords", "internal/strconv.uint64pow10", "math/bits.deBruijn32tab", "math/bits.deBruijn64tab"], apart := false, laid := [("math/bits.deBruijn32tab", laid_math_bits_deBruijn32tab), ("math/bits.deBruijn64tab", laid_math_bits_deBruijn64tab), ("internal/strconv.uint64pow10", laid_internal_strconv_uint64pow10), ("dataflow/lex.keywords", laid_dataflow_lex_keywords)], narrowed := true }
def FindingKeysUptoSaid : Prop := findingKeysUptoRow.holds Tryd.pinned (OpenSpec.upto findingKeysSpec)

end Rows
end Go.Proofs.YtfnpmhhlhlbclaaDoor
