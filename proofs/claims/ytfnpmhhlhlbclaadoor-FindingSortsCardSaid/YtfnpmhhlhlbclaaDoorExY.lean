/- Exec, part Y: the first loop of a function's code, by its rounds. -/
import Derived.Test.YtfnpmhhlhlbclaaDoorExX
namespace Go.Ex

/-- the first loop of a code, and what goes on behind it -/
def loopK {α : Type} (E : Env) (S : Calls') (keeps : Nat → Option Keep) (fuel f : Nat) : Code → Konts α → Option (Code × Konts α)
  | .seq a b, K => match loopK E S keeps fuel f a { K with norm := fun s => run E S keeps fuel f b s K } with
    | some r => some r
    | none => loopK E S keeps fuel f b K
  | .block id c, K => loopK E S keeps fuel f c { K with exit := fun i s => match Nat.beq i id with
      | true => K.norm s
      | false => K.exit i s }
  | .cond _ a b, K => match loopK E S keeps fuel f a K with
    | some r => some r
    | none => loopK E S keeps fuel f b K
  | .loop c, K => some (c, K)
  | _, _ => none

/-- the first loop of a function from its head on; behind it the function goes on to its end -/
def loopAt {α : Type} (E : Env) (S : Calls') (keeps : Nat → Option Keep) (fuel : Nat) (f : FuncId) (κ : T → Heap → Option α) (m : Nat) (s : St) : Option α :=
  match E.P.funcs[f]? with
  | none => none
  | some fn => match fn.body with
    | none => none
    | some c =>
      let fin : St → Option α := fun s => match Ex.results E fn s with
        | some t => κ t s.h
        | none => none
      match loopK E S keeps fuel f c { norm := fin, ret := fin, exit := fun _ _ => none } with
      | none => none
      | some (c, K) => match (firstRegion c).bind keeps with
        | some k => iter (fun s next => run E S keeps fuel f c s { K with norm := next }) (keepSt k) m s
        | none => iter (fun s next => run E S keeps fuel f c s { K with norm := next }) (fun s => s) m s

/-- what a call with data alone does with its result -/
def pureK {α : Type} (κ : T → Option α) : T → Heap → Option α := fun t h => (resR t).run h.get [] fun t _ => κ t

/-- the loop of a code whose first region is t, within loops that have so many rounds left, and what goes on behind it -/
def loopT {α : Type} (E : Env) (S : Calls') (keeps : Nat → Option Keep) (fuel f t : Nat) : List Nat → Code → Konts α → Option (Code × Konts α)
  | outs, .seq a b, K => match loopT E S keeps fuel f t outs a { K with norm := fun s => run E S keeps fuel f b s K } with
    | some r => some r
    | none => loopT E S keeps fuel f t outs b K
  | outs, .block id c, K => loopT E S keeps fuel f t outs c { K with exit := fun i s => match Nat.beq i id with
      | true => K.norm s
      | false => K.exit i s }
  | outs, .cond _ a b, K => match loopT E S keeps fuel f t outs a K with
    | some r => some r
    | none => loopT E S keeps fuel f t outs b K
  | outs, .loop c, K => match firstRegion c with
    | some r => match Nat.beq r t with
      | true => some (c, K)
      | false => match outs with
        | m :: rest => loopT E S keeps fuel f t rest c { K with norm := fun s => match keeps r with
            | some k => iter (fun s next => run E S keeps fuel f c s { K with norm := next }) (keepSt k) m (keepSt k s)
            | none => iter (fun s next => run E S keeps fuel f c s { K with norm := next }) (fun s => s) m s }
        | [] => none
    | none => none
  | _, _, _ => none

/-- a function from a loop's head on -/
def loopR {α : Type} (E : Env) (S : Calls') (keeps : Nat → Option Keep) (fuel : Nat) (f : FuncId) (κ : T → Heap → Option α) (t : Nat) (outs : List Nat) (m : Nat) (s : St) : Option α :=
  match E.P.funcs[f]? with
  | none => none
  | some fn => match fn.body with
    | none => none
    | some c =>
      let fin : St → Option α := fun s => match Ex.results E fn s with
        | some t => κ t s.h
        | none => none
      match loopT E S keeps fuel f t outs c { norm := fin, ret := fin, exit := fun _ _ => none } with
      | none => none
      | some (c, K) => match keeps t with
        | some k => iter (fun s next => run E S keeps fuel f c s { K with norm := next }) (keepSt k) m s
        | none => iter (fun s next => run E S keeps fuel f c s { K with norm := next }) (fun s => s) m s

/-- what a call with a heap does with its end -/
def heapK {α : Type} (hp : Heap) (κ : T → Heap → List Nat → Option α) : T → Heap → Option α := fun t h' => κ t h' (h'.map (·.1) ++ hp.map (·.1))
end Go.Ex
