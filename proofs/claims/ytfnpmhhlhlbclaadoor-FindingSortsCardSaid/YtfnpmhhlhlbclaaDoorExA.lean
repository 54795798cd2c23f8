/- Exec, part A: abstract values, heaps, the reader of one operation, and the interpreter of a function's code. Nothing is proved here. -/
import Derived.Orders
import Derived.Laws.AppendOwn
import Derived.Laws.BytesString
namespace Go.Ex

/-- data that never changes: an exact value; a slice's elements (each its cells), by a list or by a function; a pointer's cells; a function with what it captured -/
inductive D where
  | v (x : Value)
  | ro (nil : Bool) (sz : Nat) (es : List (List D))
  | rof (nil : Bool) (sz n : Nat) (get : Nat → List D)
  | pro (cs : List D)
  | fn (f : FuncId) (caps : List D)

/-- a cell: data, or a reference to a block of the call's own, with that block's version -/
inductive C where
  | any
  | d (x : D)
  | ptr (id ver e o : Nat)
  | own (id ver : Nat)
  | sl (id ver e len : Nat)
  | mp (id ver : Nat)
  | fn (f : FuncId) (caps : List C)

/-- a temporary -/
inductive T where
  | any
  | one (c : C)
  | agg (cs : List C)
  | aggd (ds : List D)
  | tup (ts : List T)

inductive Blk where
  | dead
  | dat (q : Bool) (sz : Nat) (es : List (List D))
  | refs (sz : Nat) (es : List (List C))
  | mp (ents : List (Value × T))

structure Ent where
  ver : Nat
  blk : Blk

abbrev Heap := List (Nat × Ent)

def Heap.get : Heap → Nat → Option Ent
  | [], _ => none
  | (i, e) :: r, j => match Nat.beq i j with
    | true => some e
    | false => Heap.get r j

def Heap.set : Heap → Nat → Ent → Heap
  | [], j, x => [(j, x)]
  | (i, e) :: r, j, x => match Nat.beq i j with
    | true => (i, x) :: r
    | false => (i, e) :: Heap.set r j x

def Heap.setAll : Heap → List (Nat × Ent) → Heap
  | h, [] => h
  | h, (i, e) :: r => Heap.setAll (Heap.set h i e) r

/-- one operation's reading of the heap -/
inductive Rd (α : Type) where
  | ret (a : α)
  | fail
  | get (id : Nat) (k : Option Ent → Rd α)
  | br (b : Bool) (x y : Rd α)

namespace Rd
def bind {α β : Type} : Rd α → (α → Rd β) → Rd β
  | .ret a, f => f a
  | .fail, _ => .fail
  | .get i k, f => .get i fun e => (k e).bind f
  | .br b x y, f => .br b (x.bind f) (y.bind f)
instance : Monad Rd where
  pure := Rd.ret
  bind := Rd.bind
def opt {α : Type} : Option α → Rd α
  | some a => .ret a
  | none => .fail
def need (b : Bool) : Rd Unit := .br b (.ret ()) .fail
end Rd

def br {α : Type} (b : Bool) (x y : Option α) : Option α := match b with
  | true => x
  | false => y

def Rd.run {α β : Type} (h : Nat → Option Ent) : Rd α → List Nat → (α → List Nat → Option β) → Option β
  | .ret a, acc, κ => κ a acc
  | .fail, _, _ => none
  | .get i k, acc, κ => (k (h i)).run h (i :: acc) κ
  | .br b x y, acc, κ => Ex.br b (x.run h acc κ) (y.run h acc κ)

structure Eff where
  val : T
  ws : List (Nat × Ent)

inductive Step where
  | eff (e : Eff)
  | callp (f : FuncId) (args : List T) (gone : List (Nat × Ent))
  | calls (f : FuncId) (args : List T)

def ofValue : Value → T
  | .agg cs => match cs.toList.all (·.oneCell') with
    | true => .agg (cs.toList.map fun c => .d (.v c))
    | false => .any
  | .tuple _ => .any
  | x => .one (.d (.v x))

def cellV : C → Option Value
  | .d (.v x) => some x
  | _ => none
def cellsV : List C → Option (List Value)
  | [] => some []
  | c :: r => match cellV c, cellsV r with
    | some x, some l => some (x :: l)
    | _, _ => none
def toValue : T → Option Value
  | .one c => cellV c
  | .agg cs => (cellsV cs).map fun l => .agg l.toArray
  | _ => none

def cellsT : T → Option (List C)
  | .one c => some [c]
  | .agg cs => some cs
  | _ => none

def toD : C → Option D
  | .d x => some x
  | _ => none
def toDs : List C → Option (List D)
  | [] => some []
  | c :: r => match c, toDs r with
    | .d x, some l => some (x :: l)
    | _, _ => none
def toDss : List (List C) → Option (List (List D))
  | [] => some []
  | c :: r => match toDs c, toDss r with
    | some x, some l => some (x :: l)
    | _, _ => none
def mkBlk (sz : Nat) (es : List (List C)) : Blk := match toDss es with
  | some ds => .dat false sz ds
  | none => .refs sz es

/-- the pure part of the model's own operations -/
def pureRun {α : Type} (P : Program) : Sem α → Option α
  | .pure a => some a
  | .program k => pureRun P (k P)
  | .mark _ k => pureRun P k
  | _ => none

def sizeOf? (P : Program) (t : TypeId) : Option Nat := (P.info? t).map (·.size)
def isAgg? (P : Program) (t : TypeId) : Option Bool := match P.underlying t with
  | some (.struct _) | some (.array _ _) => some true
  | some _ => some false
  | none => none
def zero? (P : Program) (t : TypeId) : Option Value := (P.info? t).bind (·.zero)

def nextVer : Option Ent → Nat
  | none => 0
  | some e => e.ver + 1

/-- a new block at a site -/
def newAt (site : Nat) (b : Blk) (val : Nat → T) : Rd Step :=
  .get site fun e => .ret (.eff { val := val (nextVer e), ws := [(site, { ver := nextVer e, blk := b })] })

/-- the block of a reference -/
def block (id ver : Nat) : Rd Blk := .get id fun
  | some e => match Nat.beq e.ver ver with
    | true => .ret e.blk
    | false => .fail
  | none => .fail

mutual
/-- a cell as data -/
def resC : (fuel : Nat) → C → Rd D
  | _, .any => .fail
  | _, .d x => .ret x
  | 0, _ => .fail
  | n + 1, .ptr id ver e o => (block id ver).bind fun
    | .dat _ _ es => .br (Nat.blt e es.length) (.br (Nat.ble o (es.getD e []).length) (.ret (.pro ((es.getD e []).drop o))) .fail) .fail
    | .refs _ es => .br (Nat.blt e es.length) (.br (Nat.ble o (es.getD e []).length) ((resCs n ((es.getD e []).drop o)).bind fun l => .ret (.pro l)) .fail) .fail
    | _ => .fail
  | n + 1, .own id ver => (block id ver).bind fun
    | .dat _ sz es => .ret (.ro false sz es)
    | .refs sz es => (resCss n es).bind fun l => .ret (.ro false sz l)
    | _ => .fail
  | n + 1, .sl id ver e len => (block id ver).bind fun
    | .dat _ sz es => .ret (.ro false sz ((es.drop e).take len))
    | .refs sz es => (resCss n ((es.drop e).take len)).bind fun l => .ret (.ro false sz l)
    | _ => .fail
  | _, .mp _ _ => .fail
  | n + 1, .fn f caps => (resCs n caps).bind fun l => .ret (.fn f l)
def resCs : (fuel : Nat) → List C → Rd (List D)
  | _, [] => .ret []
  | 0, _ => .fail
  | n + 1, c :: r => (resC n c).bind fun x => (resCs n r).bind fun l => .ret (x :: l)
def resCss : (fuel : Nat) → List (List C) → Rd (List (List D))
  | _, [] => .ret []
  | 0, _ => .fail
  | n + 1, c :: r => (resCs n c).bind fun x => (resCss n r).bind fun l => .ret (x :: l)
end

def FU : Nat := 100000

def resT : T → Rd T
  | .aggd ds => .ret (.aggd ds)
  | .one c => (resC FU c).bind fun x => .ret (.one (.d x))
  | .agg cs => (resCs FU cs).bind fun l => .ret (.agg (l.map .d))
  | _ => .fail
def resTs : List T → Rd (List T)
  | [] => .ret []
  | t :: r => (resT t).bind fun x => (resTs r).bind fun l => .ret (x :: l)
/-- a result as data -/
def resR : T → Rd T
  | .tup ts => (resTs ts).bind fun l => .ret (.tup l)
  | t => resT t

/-- cells of a value that is appended or copied, as elements -/
inductive Src where
  | ds (es : List (List D))
  | cs (es : List (List C))

def Src.len : Src → Nat
  | .ds es => es.length
  | .cs es => es.length
def Src.take (n : Nat) : Src → Src
  | .ds es => .ds (es.take n)
  | .cs es => .cs (es.take n)

/-- the elements of a slice whose elements have a size -/
def srcOf (size : Nat) : T → Rd Src
  | .one (.d (.ro _ sz es)) => match Nat.beq sz size with
    | true => .ret (.ds es)
    | false => .fail
  | .one (.d (.v (.slice none 0 _))) => .ret (.ds [])
  | .one (.own id ver) => (block id ver).bind fun
    | .dat _ sz es => match Nat.beq sz size with
      | true => .ret (.ds es)
      | false => .fail
    | .refs sz es => match Nat.beq sz size with
      | true => .ret (.cs es)
      | false => .fail
    | _ => .fail
  | .one (.sl id ver e len) => (block id ver).bind fun
    | .dat _ sz es => match Nat.beq sz size with
      | true => .ret (.ds ((es.drop e).take len))
      | false => .fail
    | .refs sz es => match Nat.beq sz size with
      | true => .ret (.cs ((es.drop e).take len))
      | false => .fail
    | _ => .fail
  | .one (.d (.rof _ sz n get)) => match Nat.beq sz size with
    | true => .ret (.ds ((List.range n).map get))
    | false => .fail
  | _ => .fail

def joinBlk (sz : Nat) : Blk → Src → Option Blk
  | .dat q _ es, .ds l => some (.dat q sz (es ++ l))
  | .dat _ _ es, .cs l => some (.refs sz (es.map (·.map .d) ++ l))
  | .refs _ es, .ds l => some (.refs sz (es ++ l.map (·.map .d)))
  | .refs _ es, .cs l => some (.refs sz (es ++ l))
  | _, _ => none
def srcBlk (sz : Nat) : Src → Blk
  | .ds l => .dat false sz l
  | .cs l => .refs sz l

def intT (k : IntKind) (n : Int) : T := .one (.d (.v (.int k n)))
def boolT (b : Bool) : T := .one (.d (.v (.bool b)))
def unitT : T := .tup []

/-- set an element's cells from an offset on -/
def setCells {α : Type} (cs : List α) (o : Nat) (new : List α) : List α := cs.take o ++ new ++ cs.drop (o + new.length)

/-- a block with cells of an element written -/
def storeBlk (b : Blk) (e o : Nat) (new : List C) : Rd Blk := match b with
  | .dat q sz es => .br (Nat.blt e es.length) (.br (Nat.ble (o + new.length) (es.getD e []).length)
      (match toDs new with
        | some l => .ret (.dat q sz (es.set e (setCells (es.getD e []) o l)))
        | none => .ret (.refs sz ((es.map (·.map .d)).set e (setCells ((es.getD e []).map .d) o new)))) .fail) .fail
  | .refs sz es => .br (Nat.blt e es.length) (.br (Nat.ble (o + new.length) (es.getD e []).length)
      (.ret (.refs sz (es.set e (setCells (es.getD e []) o new)))) .fail) .fail
  | _ => .fail

/-- a block with data cells of an element written -/
def storeD (b : Blk) (e o : Nat) (ds : List D) : Rd Blk := match b with
  | .dat q sz es => .br (Nat.blt e es.length) (.br (Nat.ble (o + ds.length) (es.getD e []).length) (.ret (.dat q sz (es.set e (setCells (es.getD e []) o ds)))) .fail) .fail
  | b => storeBlk b e o (ds.map .d)
/-- rows that are not taken apart from here on -/
def markQ (f : Bool) (b : Blk) : Blk := match f with
  | true => match b with
    | .dat _ sz es => .dat true sz es
    | b => b
  | false => b

/-- a block with elements written from an element on -/
def spliceBlk (b : Blk) (e : Nat) (src : Src) : Rd Blk := match b, src with
  | .dat q sz es, .ds l => .br (Nat.ble (e + l.length) es.length) (.ret (.dat q sz (setCells es e l))) .fail
  | .refs sz es, .cs l => .br (Nat.ble (e + l.length) es.length) (.ret (.refs sz (setCells es e l))) .fail
  | .refs sz es, .ds l => .br (Nat.ble (e + l.length) es.length) (.ret (.refs sz (setCells es e (l.map (·.map .d))))) .fail
  | .dat _ sz es, .cs l => .br (Nat.ble (e + l.length) es.length) (.ret (.refs sz (setCells (es.map (·.map .d)) e l))) .fail
  | _, _ => .fail

/-- the size of a row's elements, and how many there are -/
def Blk.row : Blk → Option (Nat × Nat)
  | .dat _ sz es => some (sz, es.length)
  | .refs sz es => some (sz, es.length)
  | _ => none

/-- the value of cells, at a type -/
def valueOf (agg : Bool) (size : Nat) (cs : List C) : Rd T := match agg with
  | true => .br (Nat.ble size cs.length) (.ret (.agg (cs.take size))) .fail
  | false => match cs with
    | c :: _ => .ret (.one c)
    | [] => .fail
def valueOfD (agg : Bool) (size : Nat) (cs : List D) : Rd T := match agg with
  | true => .br (Nat.ble size cs.length) (.ret (.agg ((cs.take size).map .d))) .fail
  | false => match cs with
    | c :: _ => .ret (.one (.d c))
    | [] => .fail

def loadR (agg : Bool) (size : Nat) : T → Rd T
  | .one (.ptr id ver e o) => (block id ver).bind fun
    | .dat false _ es => .br (Nat.blt e es.length) (valueOfD agg size ((es.getD e []).drop o)) .fail
    | .dat true sz es => .br (Nat.blt e es.length) (match agg with
      | true => match Nat.beq o 0, Nat.beq size sz with
        | true, true => .ret (.aggd (es.getD e []))
        | _, _ => .fail
      | false => .br (Nat.blt o (es.getD e []).length) (.ret (.one (.d ((es.getD e []).getD o (.v (.bool false)))))) .fail) .fail
    | .refs _ es => .br (Nat.blt e es.length) (valueOf agg size ((es.getD e []).drop o)) .fail
    | _ => .fail
  | .one (.d (.pro cs)) => valueOfD agg size cs
  | _ => .fail

/-- parts laid into cells -/
def fillC (size : Nat → Option (Nat × Nat)) (cells : List C) : List (Nat × T) → Option (List C)
  | [] => some cells
  | (i, t) :: rest => match size i, cellsT t with
    | some (off, n), some cs => match Nat.beq cs.length n, Nat.ble (off + n) cells.length with
      | true, true => fillC size (setCells cells off cs) rest
      | _, _ => none
    | _, _ => none

def zeroCs (P : Program) (t : TypeId) : Option (List D) := match zero? P t with
  | some z => match z.cells.toList.all (·.oneCell') with
    | true => some (z.cells.toList.map .v)
    | false => none
  | none => none

def chunk {α : Type} (size : Nat) : Nat → List α → List (List α)
  | 0, _ => []
  | n + 1, l => l.take size :: chunk size n (l.drop size)

def intOf? : T → Option Int
  | .one (.d (.v (.int _ n))) => some n
  | _ => none

/-- a bound of a slice expression: absent, or an integer -/
def boundOf (dflt : Nat) : Option T → Rd Nat
  | none => .ret dflt
  | some t => match intOf? t with
    | some n => .br (decide (0 ≤ n)) (.ret n.toNat) .fail
    | none => .fail

/-- a reference whose block is at hand -/
def liveRow (id ver : Nat) : Rd (Nat × Nat) := (block id ver).bind fun b => Rd.opt b.row

/-- is a slice, a pointer or a map nil? -/
def isNilR : T → Rd Bool
  | .one (.d (.v (.slice none 0 0))) => .ret true
  | .one (.d (.ro b _ _)) => .ret b
  | .one (.own id ver) => (liveRow id ver).bind fun _ => .ret false
  | .one (.sl id ver _ _) => (liveRow id ver).bind fun _ => .ret false
  | .one (.d (.v (.pointer none))) => .ret true
  | .one (.ptr id ver _ _) => (liveRow id ver).bind fun _ => .ret false
  | .one (.d (.pro _)) => .ret false
  | .one (.d (.v (.map none))) => .ret true
  | .one (.mp id ver) => (block id ver).bind fun
    | .mp _ => .ret false
    | _ => .fail
  | .one (.d (.rof b _ _ _)) => .ret b
  | _ => .fail

def mapFind (P : Program) (kt : TypeId) (k : Value) (ents : List (Value × T)) : Option (Option Nat) :=
  (pureRun P (Instr.findKey kt k (ents.map fun e => { key := e.1, val := e.1, born := 0 }))).map fun r => r.map (·.1)

/-- the length of a slice -/
def lenR : T → Rd Nat
  | .one (.d (.v (.slice _ n _))) => .ret n
  | .one (.d (.ro _ _ es)) => .ret es.length
  | .one (.own id ver) => (liveRow id ver).bind fun q => .ret q.2
  | .one (.sl id ver _ n) => (liveRow id ver).bind fun _ => .ret n
  | .one (.d (.rof _ _ n _)) => .ret n
  | _ => .fail

/-- the length of a map -/
def lenM : T → Rd Nat
  | .one (.d (.v (.map none))) => .ret 0
  | .one (.mp id ver) => (block id ver).bind fun
    | .mp ents => .ret ents.length
    | _ => .fail
  | _ => .fail

end Go.Ex
