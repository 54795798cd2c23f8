import Derived.Test.YtfnpmhhlhlbclaaDoorExZ
import Derived.Test.YtfnpmhhlhlbclaaDoorProg
import Derived.KernelRfl
namespace Go.Ex
open Go.Proofs

def kw (l : List UInt8) : D := .v (.string ⟨l.toArray⟩)
def kwords : List (List UInt8) := [[99, 108, 97, 115, 115], [101, 120, 116, 101, 110, 100, 115], [118, 97, 114], [100, 101, 102], [115, 116, 97, 116, 105, 99], [105, 102], [101, 108, 115, 101], [119, 104, 105, 108, 101], [116, 114, 121], [99, 97, 116, 99, 104], [116, 104, 114, 111, 119], [114, 101, 116, 117, 114, 110], [110, 101, 119], [110, 117, 108, 108], [116, 104, 105, 115], [105, 110, 112, 117, 116], [105, 110, 116]]
def pow10s : List Int := [1, 10, 100, 1000, 10000, 100000, 1000000, 10000000, 100000000, 1000000000, 10000000000, 100000000000, 1000000000000, 10000000000000, 100000000000000, 1000000000000000, 10000000000000000, 100000000000000000, 1000000000000000000, 10000000000000000000]
def glob : Nat → Option (List D)
  | 0 => some (kwords.map kw)
  | 1 => some (pow10s.map fun n => .v (.int .u64 n))
  | _ => none
noncomputable def E1 : Env := { P := Tryd.prog, G := glob, stateful := fun f => [33, 41, 42, 52, 59, 60, 43, 66, 69].any (Nat.beq f) }

set_option maxRecDepth 100000
theorem prog_ok : progOK Tryd.prog = true := by kernel_rfl
theorem mix : Tryd.prog.follows .mixedOrders = true := by kernel_rfl

/-- a function run over a summary of what it calls -/
theorem Told.run {sum : {α : Type} → FuncId → List T → (T → Option α) → Option α} (h : Told E1 @sum) (keeps : FuncId → Nat → Option Keep) (fuel : Nat) {g : FuncId} {args : List T} {r : T}
    (hr : ((asks @sum).next E1 keeps fuel).pure g args some = some r) : Says E1 g args r := h.says mix prog_ok keeps fuel hr

theorem Told.rund {sum : {α : Type} → FuncId → List T → (T → Option α) → Option α} (h : Told E1 @sum) (has : FuncId → Bool) (keeps : FuncId → Nat → Option Keep) (fuel n : Nat) {g : FuncId} {args : List T} {r : T}
    (hr : ((deep E1 @sum has keeps fuel n).next E1 keeps fuel).pure g args some = some r) : Says E1 g args r := ((h.deep_ok mix prog_ok has keeps fuel n).step mix prog_ok keeps fuel).says hr

/-- nothing is called -/
def nosum {α : Type} (_ : FuncId) (_ : List T) (_ : T → Option α) : Option α := none
theorem nosum_told : Told E1 @nosum := fun f args κ x h => by simp [nosum] at h
def nokeep (_ : FuncId) (_ : Nat) : Option Keep := none
end Go.Ex
