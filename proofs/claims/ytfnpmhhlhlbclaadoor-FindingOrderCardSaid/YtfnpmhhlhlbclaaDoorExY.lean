/- Exec, part Y: the first loop of a function's code, by its rounds. -/
import Derived.Test.YtfnpmhhlhlbclaaDoorExX
namespace Go.Ex

/-- the first loop of a code, and what goes on behind it -/
def loopK {α : Type} (E : Env) (S : Calls') (keeps : Nat → Option Keep) (fuel f : Nat) : Code → Konts α → Option (Code × Konts α)
  | .seq a b, K => match loopK E S keeps fuel f a { K with norm := fun s => run E S keeps fuel f b s K } with
    | some r => some r
    | none => loopK E S keeps fuel f b K
  | .block id c, K => loopK E S keeps fuel f c { K with exit := fun i s => match Nat.beq i id with
      | true => K.norm s
      | false => K.exit i s }
  | .cond _ a b, K => match loopK E S keeps fuel f a K with
    | some r => some r
    | none => loopK E S keeps fuel f b K
  | .loop c, K => some (c, K)
  | _, _ => none

/-- the first loop of a function from its head on; behind it the function goes on to its end -/
def loopAt {α : Type} (E : Env) (S : Calls') (keeps : Nat → Option Keep) (fuel : Nat) (f : FuncId) (κ : T → Heap → Option α) (m : Nat) (s : St) : Option α :=
  match E.P.funcs[f]? with
  | none => none
  | some fn => match fn.body with
    | none => none
    | some c =>
      let fin : St → Option α := fun s => match Ex.results E fn s with
        | some t => κ t s.h
        | none => none
      match loopK E S keeps fuel f c { norm := fin, ret := fin, exit := fun _ _ => none } with
      | none => none
      | some (c, K) => match (firstRegion c).bind keeps with
        | some k => iter (fun s next => run E S keeps fuel f c s { K with norm := next }) (keepSt k) m s
        | none => iter (fun s next => run E S keeps fuel f c s { K with norm := next }) (fun s => s) m s

/-- what a call with data alone does with its result -/
def pureK {α : Type} (κ : T → Option α) : T → Heap → Option α := fun t h => (resR t).run h.get [] fun t _ => κ t
end Go.Ex
