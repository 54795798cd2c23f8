import Derived.Test.YtfnpmhhlhlbclaaDoorDtA
namespace Go.Ex
open Go.Proofs
set_option maxRecDepth 100000
/-- the whole of awake, run -/
theorem awake_run : (calls E1 nokeep 5000 20).pure 7 [] some = some (boolT true) := by kernel_rfl
theorem awake_says : Says E1 7 [] (boolT true) := (calls_ok (E := E1) mix prog_ok nokeep 5000 20).says awake_run
end Go.Ex
