/- Exec, part B: what one operation does to abstract values, and the interpreter. Nothing is proved here. -/
import Derived.Test.YtfnpmhhlhlbclaaDoorExA
namespace Go.Ex

/-- what is known of the program beside its tables: the globals that never change, which functions write to what they are handed -/
structure Env where
  P : Program
  G : Nat → Option (List D)
  stateful : FuncId → Bool
  opq : Nat → Bool := fun _ => false

def evO (E : Env) (tm : Nat → T) : Operand → T
  | .tmp t => tm t
  | .const v => ofValue v
  | .global g => match E.G g with
    | some cs => .one (.d (.pro cs))
    | none => .any
  | .func f => .one (.d (.v (.func (.func f) #[] #[])))

def effR (t : T) : Rd Step := .ret (.eff { val := t, ws := [] })

def exactR (P : Program) (s : Sem Value) : Rd Step := match pureRun P s with
  | some v => effR (ofValue v)
  | none => .fail

def slElem? (P : Program) (t : TypeId) : Option TypeId := match P.underlying t with
  | some (.slice e) => some e
  | _ => none

def appendR (P : Program) (opq : Nat → Bool) (site : Nat) (argTypes : Array TypeId) (s x : T) : Rd Step :=
  match argTypes.toList with
  | [st, xt] => match Nat.beq st xt with
    | false => .fail
    | true => match slElem? P st with
      | none => .fail
      | some elem => match P.info? elem, zero? P elem with
        | some i, some z => match Nat.beq i.size 0, Nat.beq i.bytes 0, Nat.beq z.cells.size i.size with
          | false, false, true => (srcOf i.size x).bind fun l =>
            match s with
            | .one (.d (.v (.slice none 0 0))) =>
              .br (Nat.beq l.len 0) (effR s) (.br (decide (l.len * i.bytes ≤ 140737488355328)) (newAt site (markQ (opq site) (srcBlk i.size l)) fun v => .one (.own site v)) .fail)
            | .one (.d (.ro true _ _)) =>
              .br (Nat.beq l.len 0) (effR s) (.br (decide (l.len * i.bytes ≤ 140737488355328)) (newAt site (markQ (opq site) (srcBlk i.size l)) fun v => .one (.own site v)) .fail)
            | .one (.own id ver) => (block id ver).bind fun b =>
              match b.row with
              | some (sz, n) => match Nat.beq sz i.size, joinBlk sz b l with
                | true, some b' => .br (decide ((n + l.len) * i.bytes ≤ 140737488355328))
                    (.ret (.eff { val := .one (.own id (ver + 1)), ws := [(id, { ver := ver + 1, blk := markQ (opq id) b' })] })) .fail
                | _, _ => .fail
              | none => .fail
            | .one (.sl id ver e len) => (block id ver).bind fun b =>
              match b.row with
              | some (sz, _) => match Nat.beq sz i.size with
                | true => (spliceBlk b (e + len) l).bind fun b' =>
                    .ret (.eff { val := .one (.sl id ver e (len + l.len)), ws := [(id, { ver := ver, blk := b' })] })
                | false => .fail
              | none => .fail
            | _ => .fail
          | _, _, _ => .fail
        | _, _ => .fail
  | _ => .fail

/-- the place of a slice's elements -/
def placeOf : T → Option (Nat × Nat × Nat)
  | .one (.own id ver) => some (id, ver, 0)
  | .one (.sl id ver e _) => some (id, ver, e)
  | _ => none

def copyR (P : Program) (argTypes : Array TypeId) (d x : T) : Rd Step :=
  match argTypes[0]?, argTypes[1]? with
  | some dt, some xt => match slElem? P dt, P.underlying xt with
    | some elem, some (.slice _) => match sizeOf? P elem with
      | some size => match Nat.beq size 0 with
        | true => .fail
        | false => (lenR d).bind fun n => (srcOf size x).bind fun l =>
          .br (Nat.beq (Nat.min l.len n) 0) (effR (intT .i64 0))
            (match placeOf d with
              | some (id, ver, e) => (block id ver).bind fun b =>
                match b.row with
                | some (sz, _) => match Nat.beq sz size with
                  | true => (spliceBlk b e (l.take (Nat.min l.len n))).bind fun b' =>
                    .ret (.eff { val := intT .i64 (Nat.min l.len n : Nat), ws := [(id, { ver := ver, blk := b' })] })
                  | false => .fail
                | none => .fail
              | none => .fail)
      | none => .fail
    | _, _ => .fail
  | _, _ => .fail

def clearR (P : Program) (argTypes : Array TypeId) (d : T) : Rd Step :=
  match argTypes[0]? with
  | some dt => match slElem? P dt with
    | some elem => match zeroCs P elem with
      | some z => (lenR d).bind fun n =>
          .br (Nat.beq n 0) (effR unitT)
            (match placeOf d with
              | some (id, ver, e) => (block id ver).bind fun b =>
                match b.row with
                | some (sz, _) => match Nat.beq sz z.length, Nat.beq sz 0 with
                  | true, false => (spliceBlk b e (.ds (List.replicate n z))).bind fun b' =>
                    .ret (.eff { val := unitT, ws := [(id, { ver := ver, blk := b' })] })
                  | _, _ => .fail
                | none => .fail
              | none => .fail)
      | none => .fail
    | none => .fail
  | none => .fail

def builtinR (P : Program) (opq : Nat → Bool) (site : Nat) (b : Builtin) (argTypes : Array TypeId) (ty : TypeId) (args : List T) : Rd Step :=
  match b, args with
  | .len, [x] => match argTypes[0]? with
    | some t => match P.underlying t with
      | some (.slice _) => (lenR x).bind fun n => effR (intT .i64 (n : Nat))
      | some (.map _ _) => (lenM x).bind fun n => effR (intT .i64 (n : Nat))
      | some .string => match x with
        | .one (.d (.v (.string s))) => effR (intT .i64 (s.size : Nat))
        | _ => .fail
      | _ => .fail
    | none => .fail
  | .append, [s, x] => appendR P opq site argTypes s x
  | .copy, [d, x] => copyR P argTypes d x
  | .clear, [d] => clearR P argTypes d
  | .min, [x, y] => match toValue x, toValue y with
    | some a, some b => exactR P (Builtin.min_ argTypes ty #[a, b])
    | _, _ => .fail
  | .max, [x, y] => match toValue x, toValue y with
    | some a, some b => exactR P (Builtin.max_ argTypes ty #[a, b])
    | _, _ => .fail
  | _, _ => .fail

def sliceR (P : Program) (t : TypeId) (x : T) (lo hi : Option T) : Rd Step :=
  match P.underlying t, x with
  | some .string, .one (.d (.v (.string s))) =>
    (boundOf s.size hi).bind fun h => .br (Nat.ble h s.size) ((boundOf 0 lo).bind fun l => .br (Nat.ble l h) (effR (.one (.d (.v (.string (s.extract l h)))))) .fail) .fail
  | some (.slice elem), x => match sizeOf? P elem with
    | none => .fail
    | some size =>
      match x with
      | .one (.d (.v (.slice none 0 0))) =>
        (boundOf 0 hi).bind fun h => .br (Nat.beq h 0) ((boundOf 0 lo).bind fun l => .br (Nat.beq l 0) (effR x) .fail) .fail
      | .one (.d (.ro true _ _)) =>
        (boundOf 0 hi).bind fun h => .br (Nat.beq h 0) ((boundOf 0 lo).bind fun l => .br (Nat.beq l 0) (effR x) .fail) .fail
      | .one (.d (.ro false sz es)) => match Nat.beq sz size with
        | true => (boundOf es.length hi).bind fun h => .br (Nat.ble h es.length) ((boundOf 0 lo).bind fun l => .br (Nat.ble l h)
            (effR (.one (.d (.ro false sz ((es.take h).drop l))))) .fail) .fail
        | false => .fail
      | .one (.own id ver) => (block id ver).bind fun b =>
        match b.row with
        | some (sz, n) => match Nat.beq sz size with
          | true => (boundOf n hi).bind fun h => .br (Nat.ble h n) ((boundOf 0 lo).bind fun l => .br (Nat.ble l h)
              (effR (.one (.sl id ver l (h - l)))) .fail) .fail
          | false => .fail
        | none => .fail
      | .one (.sl id ver e len) => (block id ver).bind fun b =>
        match b.row with
        | some (sz, n) => match Nat.beq sz size with
          | true => (boundOf len hi).bind fun h => .br (Nat.ble (e + h) n) ((boundOf 0 lo).bind fun l => .br (Nat.ble l h)
              (effR (.one (.sl id ver (e + l) (h - l)))) .fail) .fail
          | false => .fail
        | none => .fail
      | _ => .fail
  | _, _ => .fail

def indexAddrR (P : Program) (t : TypeId) (x ix : T) : Rd Step :=
  match intOf? ix with
  | none => .fail
  | some i => match P.underlying t with
    | some (.slice elem) => match sizeOf? P elem with
      | none => .fail
      | some size =>
        match x with
        | .one (.d (.ro _ sz es)) => match Nat.beq sz size with
          | true => .br (decide (0 ≤ i)) (.br (decide (i < (es.length : Int))) (effR (.one (.d (.pro (es.getD i.toNat []))))) .fail) .fail
          | false => .fail
        | .one (.d (.rof _ sz n get)) => match Nat.beq sz size with
          | true => .br (decide (0 ≤ i)) (.br (decide (i < (n : Int))) (effR (.one (.d (.pro (get i.toNat))))) .fail) .fail
          | false => .fail
        | .one (.own id ver) => (block id ver).bind fun b =>
          match b.row with
          | some (sz, n) => match Nat.beq sz size with
            | true => .br (decide (0 ≤ i)) (.br (decide (i < (n : Int))) (effR (.one (.ptr id ver i.toNat 0))) .fail) .fail
            | false => .fail
          | none => .fail
        | .one (.sl id ver e len) => (block id ver).bind fun b =>
          match b.row with
          | some (sz, _) => match Nat.beq sz size with
            | true => .br (decide (0 ≤ i)) (.br (decide (i < (len : Int))) (effR (.one (.ptr id ver (e + i.toNat) 0))) .fail) .fail
            | false => .fail
          | none => .fail
        | _ => .fail
    | some (.array len elem) => match sizeOf? P elem with
      | none => .fail
      | some size =>
        match x with
        | .one (.ptr id ver e o) => (liveRow id ver).bind fun _ => .br (decide (0 ≤ i)) (.br (decide (i < (len : Int))) (effR (.one (.ptr id ver e (o + i.toNat * size)))) .fail) .fail
        | .one (.d (.pro cs)) => .br (decide (0 ≤ i)) (.br (decide (i < (len : Int)))
            (.br (Nat.ble (i.toNat * size) cs.length) (effR (.one (.d (.pro (cs.drop (i.toNat * size)))))) .fail) .fail) .fail
        | _ => .fail
    | _ => .fail

def partR (P : Program) (t : TypeId) (cs : List C) (off : Nat) : Rd Step :=
  match isAgg? P t, sizeOf? P t with
  | some agg, some size => (valueOf agg size (cs.drop off)).bind effR
  | _, _ => .fail

def fieldOf? (P : Program) (s : TypeId) (f : Nat) : Option Field := match P.underlying s with
  | some (.struct fields) => fields[f]?
  | _ => none

def callee (f : T) (args : List T) : Option (FuncId × List T) := match f with
  | .one (.d (.v (.func (.func g) first captured))) => match first.toList, captured.toList with
    | [], [] => some (g, args)
    | _, _ => none
  | .one (.d (.fn g caps)) => some (g, args ++ caps.map fun c => .one (.d c))
  | .one (.fn g caps) => some (g, args ++ caps.map .one)
  | _ => none

def callR (E : Env) (g : FuncId) (args : List T) : Rd Step := match E.stateful g with
  | true => .ret (.calls g args)
  | false => (resTs args).bind fun l => .ret (.callp g l [])

def okT (commaOk : Bool) (v : T) (ok : Bool) : T := match commaOk with
  | true => .tup [v, boolT ok]
  | false => v

def lookupR (P : Program) (t : TypeId) (m k : T) (commaOk : Bool) : Rd Step :=
  match P.underlying t, toValue k with
  | some (.map kt et), some kv => match pureRun P (Instr.checkKey false 10000 kt kv), pureRun P (Instr.checkKey true 10000 kt kv), zero? P et with
    | some _, some _, some z =>
      match m with
      | .one (.d (.v (.map none))) => match mapFind P kt kv [] with
        | some none => effR (okT commaOk (ofValue z) false)
        | _ => .fail
      | .one (.mp id ver) => (block id ver).bind fun
        | .mp ents => match mapFind P kt kv ents with
          | some (some i) => effR (okT commaOk (ents.getD i (kv, .any)).2 true)
          | some none => effR (okT commaOk (ofValue z) false)
          | none => .fail
        | _ => .fail
      | _ => .fail
    | _, _, _ => .fail
  | _, _ => .fail

def mapUpdateR (P : Program) (t : TypeId) (m k x : T) : Rd Step :=
  match P.underlying t, toValue k with
  | some (.map kt _), some kv => match pureRun P (Instr.checkKey false 10000 kt kv) with
    | some _ => match m with
      | .one (.mp id ver) => (block id ver).bind fun
        | .mp ents => match mapFind P kt kv ents with
          | some (some i) => match Instr.sameBits 10000 (ents.getD i (kv, .any)).1 kv with
            | true => .ret (.eff { val := .any, ws := [(id, { ver := ver, blk := .mp (ents.set i (kv, x)) })] })
            | false => .fail
          | some none => .ret (.eff { val := .any, ws := [(id, { ver := ver, blk := .mp (ents ++ [(kv, x)]) })] })
          | none => .fail
        | _ => .fail
      | _ => .fail
    | none => .fail
  | _, _ => .fail

def pairR (x y : T) (k : Value → Value → Rd Step) : Rd Step := match toValue x, toValue y with
  | some a, some b => k a b
  | _, _ => .fail

/-- what is compared with nil: a slice, a pointer, a map -/
def typeKind (P : Program) (t : TypeId) : Nat := match P.underlying t with
  | some (.slice _) => 0
  | some (.pointer _) => 1
  | some (.map _ _) => 2
  | _ => 3
def constKind : Operand → Nat
  | .const (.slice none 0 0) => 0
  | .const (.pointer none) => 1
  | .const (.map none) => 2
  | _ => 4
def kindT : T → Nat
  | .one (.d (.v (.slice _ _ _))) => 0
  | .one (.d (.ro _ _ _)) => 0
  | .one (.d (.rof _ _ _ _)) => 0
  | .one (.own _ _) => 0
  | .one (.sl _ _ _ _) => 0
  | .one (.d (.v (.pointer _))) => 1
  | .one (.ptr _ _ _ _) => 1
  | .one (.d (.pro _)) => 1
  | .one (.d (.v (.map _))) => 2
  | .one (.mp _ _) => 2
  | _ => 5

def eqNilR (kind : Nat) (op : BinOp) (x : T) : Rd Step := match Nat.beq (kindT x) kind with
  | true => match op with
    | .eql => (isNilR x).bind fun b => effR (boolT b)
    | .neq => (isNilR x).bind fun b => effR (boolT (!b))
    | _ => .fail
  | false => .fail

def eqLeaf (P : Program) (t : TypeId) (x y : Value) : Option Bool := match P.underlying t, x, y with
  | some .bool, .bool a, .bool b => some (a == b)
  | some (.int _), .int k a, .int k' b => match decide (k = k') with
    | true => some (a == b)
    | false => none
  | some .string, .string a, .string b => some (a == b)
  | _, _, _ => none
def eqFields (P : Program) (xs ys : List Value) : List Field → Option Bool
  | [] => some true
  | f :: r => match decide (f.name = "_"), isAgg? P f.type, xs[f.offset]?, ys[f.offset]? with
    | false, some false, some a, some b => match eqLeaf P f.type a b, eqFields P xs ys r with
      | some c, some d => some (c && d)
      | _, _ => none
    | _, _, _, _ => none
def structEq (P : Program) (op : BinOp) (t : TypeId) : Value → Value → Option Bool
  | .agg xs, .agg ys => match P.underlying t, P.eqGuardType P.depth t, P.stoodInHeld t with
    | some (.struct fields), false, false => match op with
      | .eql => eqFields P xs.toList ys.toList fields.toList
      | .neq => match eqFields P xs.toList ys.toList fields.toList with
        | some b => some (!b)
        | none => none
      | _ => none
    | _, _, _ => none
  | _, _ => none

def binR (P : Program) (op : BinOp) (t : TypeId) (x y : Operand) (a b : T) : Rd Step :=
  match op, a, b with
  | .add, .one (.d (.v (.string p))), .one (.d (.v (.string q))) =>
    .br (decide (p.size + q.size ≤ 9223372036854775807)) (effR (.one (.d (.v (.string (p ++ q)))))) .fail
  | op, a, b => match toValue a, toValue b with
    | some va, some vb => match structEq P op t va vb with
      | some c => effR (boolT c)
      | none => exactR P (do eqGuard op t x y va vb; binOp op t va vb)
    | _, _ => .fail

def isBytes (P : Program) (t : TypeId) : Bool := match slElem? P t with
  | some e => match P.underlying e with
    | some (.int .u8) => true
    | _ => false
  | none => false
def isStr (P : Program) (t : TypeId) : Bool := match P.underlying t with
  | some .string => true
  | _ => false
def bytesD : List (List D) → Option (List Int)
  | [] => some []
  | [.v (.int .u8 n)] :: r => match bytesD r with
    | some l => some (n :: l)
    | none => none
  | _ => none
def pushAll (ns : List Int) : ByteArray := ns.foldl (fun r n => r.push (UInt8.ofNat n.toNat)) ByteArray.empty
/-- a text out of bytes -/
def bytesR (x : T) : Rd Step := (srcOf 1 x).bind fun
  | .ds es => match bytesD es with
    | some ns => effR (.one (.d (.v (.string (pushAll ns)))))
    | none => .fail
  | .cs _ => .fail

def madeRef (full : Bool) (site v l : Nat) : C := match full with
  | true => .own site v
  | false => .sl site v 0 l

def placesOf (P : Program) (fields : List Field) (j : Nat) : Option (Nat × Nat) := match fields[j]? with
  | some f => (sizeOf? P f.type).map fun n => (f.offset, n)
  | none => none

def capsOf : List T → Option (List C)
  | [] => some []
  | .one c :: r => match capsOf r with
    | some l => some (c :: l)
    | none => none
  | _ :: _ => none

def absOp (E : Env) (site : Nat) (ev : Operand → T) (o : Oper) : Rd Step :=
  let P := E.P
  match o.op with
  | .move x | .assign x => effR (ev x)
  | .pick c a b => match ev c with
    | .one (.d (.v (.bool t))) => .br t (effR (ev a)) (effR (ev b))
    | _ => .fail
  | .alloc elem => match zeroCs P elem, sizeOf? P elem with
    | some z, some size => match Nat.beq z.length size with
      | true => newAt site (.dat false size [z]) fun v => .one (.ptr site v 0 0)
      | false => .fail
    | _, _ => .fail
  | .box _ x => match cellsT (ev x) with
    | some cs => newAt site (mkBlk cs.length [cs]) fun v => .one (.ptr site v 0 0)
    | none => .fail
  | .build t parts => match zeroCs P t, P.underlying t with
    | some z, some (.struct fields) => match fields.toList.all (fun f => (sizeOf? P f.type).isSome) with
      | true => match fillC (placesOf P fields.toList) (z.map .d) (parts.toList.map fun (i, x) => (i, ev x)) with
        | some cs => effR (.agg cs)
        | none => .fail
      | false => .fail
    | some z, some (.array _ elem) => match sizeOf? P elem with
      | some size => match fillC (fun i => some (i * size, size)) (z.map .d) (parts.toList.map fun (i, x) => (i, ev x)) with
        | some cs => effR (.agg cs)
        | none => .fail
      | none => .fail
    | _, _ => .fail
  | .buildSlice t len parts => match slElem? P t with
    | none => .fail
    | some elem => match sizeOf? P elem, zeroCs P elem with
      | some size, some z => match Nat.beq size 0, Nat.beq z.length size, Nat.ble (len * size) 16777216 with
        | false, true, true => match fillC (fun i => some (i * size, size)) ((List.replicate len z).flatten.map .d) (parts.toList.map fun (i, x) => (i, ev x)) with
          | some cs => newAt site (mkBlk size (chunk size len cs)) fun v => .one (.own site v)
          | none => .fail
        | _, _, _ => .fail
      | _, _ => .fail
  | .load t a => match isAgg? P t, sizeOf? P t with
    | some agg, some size => (loadR agg size (ev a)).bind effR
    | _, _ => .fail
  | .store t a x => match sizeOf? P t, ev x, ev a with
    | some size, .aggd ds, .one (.ptr id ver e off) => .br (Nat.beq ds.length size)
        ((block id ver).bind fun b => (storeD b e off ds).bind fun b' => .ret (.eff { val := .any, ws := [(id, { ver := ver, blk := b' })] })) .fail
    | some size, x, .one (.ptr id ver e off) => match cellsT x with
      | some cs => match Nat.beq cs.length size with
        | true => (block id ver).bind fun b => (storeBlk b e off cs).bind fun b' => .ret (.eff { val := .any, ws := [(id, { ver := ver, blk := b' })] })
        | false => .fail
      | none => .fail
    | _, _, _ => .fail
  | .nilCheck x => match ev x with
    | .one (.ptr id ver e off) => (liveRow id ver).bind fun _ => effR (.one (.ptr id ver e off))
    | .one (.d (.pro cs)) => effR (.one (.d (.pro cs)))
    | _ => .fail
  | .binOp op t x y _ => match Nat.beq (typeKind P t) (constKind y), Nat.beq (typeKind P t) (constKind x) with
    | true, _ => eqNilR (typeKind P t) op (ev x)
    | false, true => eqNilR (typeKind P t) op (ev y)
    | false, false => binR P op t x y (ev x) (ev y)
  | .unOp op _ x => match toValue (ev x) with
    | some v => exactR P (Op.unary op v)
    | none => .fail
  | .convert src dst x => match isBytes P src, isStr P dst with
    | true, true => bytesR (ev x)
    | _, _ => match toValue (ev x) with
      | some v => exactR P (convert src dst v)
      | none => .fail
  | .makeFunc (.func f) first captured => match first.toList with
    | [] => match captured.toList with
      | [] => effR (.one (.d (.v (.func (.func f) #[] #[]))))
      | l => match capsOf (l.map ev) with
        | some caps => match toDs caps with
          | some ds => effR (.one (.d (.fn f ds)))
          | none => effR (.one (.fn f caps))
        | none => .fail
    | _ => .fail
  | .makeMap _ r => match r with
    | none => newAt site (.mp []) fun v => .one (.mp site v)
    | some _ => .fail
  | .makeSlice t l c => match slElem? P t with
    | none => .fail
    | some elem => match P.info? elem, zeroCs P elem, intOf? (ev l), intOf? (ev c) with
      | some i, some z, some l, some c => match Nat.beq i.size 0, Nat.beq z.length i.size with
        | false, true => .br (decide (0 ≤ l)) (.br (decide (l ≤ c)) (.br (decide (c ≤ 281474976710656)) (.br (decide (i.bytes * c ≤ 281474976710656))
            (newAt site (.dat false i.size (List.replicate c.toNat z)) fun v => .one (madeRef (decide (l = c)) site v l.toNat)) .fail) .fail) .fail) .fail
        | _, _ => .fail
      | _, _, _, _ => .fail
  | .slice t x lo hi mx => match mx with
    | none => sliceR P t (ev x) (lo.map ev) (hi.map ev)
    | some _ => .fail
  | .fieldAddr s x f => match fieldOf? P s f with
    | some fd => match sizeOf? P fd.type with
      | some n => match Nat.beq n 0, ev x with
        | false, .one (.ptr id ver e off) => (liveRow id ver).bind fun _ => effR (.one (.ptr id ver e (off + fd.offset)))
        | false, .one (.d (.pro cs)) => .br (Nat.ble fd.offset cs.length) (effR (.one (.d (.pro (cs.drop fd.offset))))) .fail
        | _, _ => .fail
      | none => .fail
    | none => .fail
  | .field s x f => match fieldOf? P s f, ev x with
    | some fd, .agg cs => partR P fd.type cs fd.offset
    | _, _ => .fail
  | .indexAddr t x ix => indexAddrR P t (ev x) (ev ix)
  | .index t x ix => match P.underlying t, ev x, intOf? (ev ix) with
    | some .string, .one (.d (.v (.string s))), some i =>
      .br (decide (0 ≤ i)) (.br (decide (i < (s.size : Int))) (effR (intT .u8 (s.data.toList.getD i.toNat 0).toNat)) .fail) .fail
    | some (.array len elem), .agg cs, some i => match sizeOf? P elem with
      | some size => .br (decide (0 ≤ i)) (.br (decide (i < (len : Int))) (partR P elem cs (i.toNat * size)) .fail) .fail
      | none => .fail
    | _, _, _ => .fail
  | .lookup t m k ok => lookupR P t (ev m) (ev k) ok
  | .mapUpdate t m k x | .insert t m k x => mapUpdateR P t (ev m) (ev k) (ev x)
  | .extract t ix => match ev t with
    | .tup ts => match ts[ix]? with
      | some x => effR x
      | none => .fail
    | _ => .fail
  | .call c => match c.callee with
    | .value f => match callee (ev f) (c.args.toList.map ev) with
      | some (g, args) => callR E g args
      | none => .fail
    | .builtin b => builtinR P E.opq site b c.argTypes o.type (c.args.toList.map ev)
    | .invoke _ _ => .fail
  | _ => .fail

/-! ### the interpreter -/
structure St where
  tm : List T
  h : Heap

def St.get (s : St) (t : Nat) : T := s.tm.getD t .any
def St.put (s : St) (dst : Option Tmp) (v : T) : St := match dst with
  | none => s
  | some d => { s with tm := s.tm.set d v }

/-- what calls answer, to whoever goes on: by data alone, and by a heap (with the ids that may have changed) -/
structure Calls' where
  pure : {α : Type} → FuncId → List T → (T → Option α) → Option α
  heap : {α : Type} → FuncId → List T → Heap → (T → Heap → List Nat → Option α) → Option α

def isFlat : T → Bool
  | .one (.d (.v _)) => true
  | .tup ts => ts.all fun | .one (.d (.v _)) => true | _ => false
  | .agg cs => cs.all fun | .d (.v _) => true | _ => false
  | _ => false

def killAll (h : Heap) : List Nat → List (Nat × Ent)
  | [] => []
  | i :: r => match h.get i with
    | some e => (i, { ver := e.ver, blk := .dead }) :: killAll h r
    | none => killAll h r

/-- what is known of an operation that has run: what it read, what it wrote -/
structure Mk where
  i : Nat
  call : Bool
  rs : List Nat
  ws : List Nat

def runOp {α : Type} (E : Env) (S : Calls') (site : Nat) (o : Oper) (i : Nat) (s : St) (ms : List Mk) (κ : St → List Mk → Option α) : Option α :=
  (absOp E site (evO E s.get) o).run s.h.get [] fun st rs => match st with
    | .eff e => κ { (s.put o.dst e.val) with h := s.h.setAll e.ws } ({ i, call := false, rs, ws := e.ws.map (·.1) } :: ms)
    | .callp g args _ => S.pure g args fun r => match isFlat r with
      | true => κ (s.put o.dst r) ({ i, call := false, rs, ws := [] } :: ms)
      | false => κ { (s.put o.dst r) with h := s.h.setAll (killAll s.h rs) } ({ i, call := false, rs, ws := rs } :: ms)
    | .calls g args => S.heap g args s.h fun r h' ws => κ { (s.put o.dst r) with h := h' } ({ i, call := true, rs, ws } :: ms)

def dstOf (ops : Array Oper) (j : Nat) : Option Tmp := (ops[j]?).bind (·.dst)

def runOps {α : Type} (E : Env) (S : Calls') (base : Nat) (ops : Array Oper) : List Oper → Nat → St → List Mk → (St → List Mk → Option α) → Option α
  | [], _, s, ms, κ => κ s ms
  | o :: rest, i, s, ms, κ =>
    match o.guard with
    | none => runOp E S (base + i) o i s ms fun s ms => runOps E S base ops rest (i + 1) s ms κ
    | some (j, want) => match dstOf ops j with
      | some d => match s.get d with
        | .one (.d (.v (.bool b))) =>
          let yes (b : Bool) : Option α := runOp E S (base + i) o i (s.put (some d) (boolT b)) ms fun s ms => runOps E S base ops rest (i + 1) s ms κ
          let no (b : Bool) : Option α := runOps E S base ops rest (i + 1) ((s.put (some d) (boolT b)).put o.dst unitT) ms κ
          match want with
          | true => br b (yes true) (no false)
          | false => br b (no true) (yes false)
        | .tup [] => runOps E S base ops rest (i + 1) (s.put o.dst unitT) ms κ
        | _ => none
      | none => none

def disj (a b : List Nat) : Bool := a.all fun x => b.all fun y => !Nat.beq x y

/-- may two operations come in either order? -/
def okPair (bf : List Nat) (a b : Mk) : Bool :=
  let (x, y) := if a.i < b.i then (a, b) else (b, a)
  (bf.getD y.i 0).testBit x.i || (disj a.rs b.ws && disj a.ws b.rs && disj a.ws b.ws &&
    (!a.call || b.ws.isEmpty) && (!b.call || a.ws.isEmpty))

def okPairs (bf : List Nat) : List Mk → Bool
  | [] => true
  | a :: r => (r.all fun b => okPair bf a b) && okPairs bf r

def iter {α : Type} (F : St → (St → Option α) → Option α) (g : St → St) : Nat → St → Option α
  | 0, _ => none
  | n + 1, s => F s fun s' => iter F g n (g s')

/-- what a loop keeps: its slots and blocks -/
structure Keep where
  tm : List Nat
  ids : List Nat
  soft : Bool := false
  fz : List Nat := []

def nthT (l : List Nat) (tm : List T) : List T := tm.zipIdx.map fun (t, i) => if l.any (Nat.beq i) then t else .any

def cleanC (h : Heap) : C → C
  | .ptr id ver e o => match h.get id with
    | some en => match Nat.beq en.ver ver with
      | true => .ptr id 0 e o
      | false => .any
    | none => .any
  | .own id ver => match h.get id with
    | some en => match Nat.beq en.ver ver with
      | true => .own id 0
      | false => .any
    | none => .any
  | .sl id ver e len => match h.get id with
    | some en => match Nat.beq en.ver ver with
      | true => .sl id 0 e len
      | false => .any
    | none => .any
  | .mp id ver => match h.get id with
    | some en => match Nat.beq en.ver ver with
      | true => .mp id 0
      | false => .any
    | none => .any
  | .d x => .d x
  | .fn _ _ => .any
  | .any => .any

def cleanT (h : Heap) : T → T
  | .one c => .one (cleanC h c)
  | .agg cs => .agg (cs.map (cleanC h))
  | .aggd ds => .aggd ds
  | _ => .any

def cleanB (h : Heap) : Blk → Blk
  | .refs sz es => .refs sz (es.map (·.map (cleanC h)))
  | .mp ents => .mp (ents.map fun (k, t) => (k, match t with
    | .one (.d x) => .one (.d x)
    | .agg cs => .agg (cs.map (cleanC h))
    | t => cleanT h t))
  | b => b

def keepHeap (ids : List Nat) (h : Heap) : Heap := h.filter fun (i, _) => ids.any (Nat.beq i)

/-- a block that goes on as data -/
def cleanF (fz : List Nat) (h h0 : Heap) : T → T
  | .one (.own id ver) => match fz.any (Nat.beq id), h0.get id, h.get id with
    | true, none, some ⟨v, .dat _ sz es⟩ => match Nat.beq v ver with
      | true => .one (.d (.ro false sz es))
      | false => .any
    | _, _, _ => cleanT h0 (.one (.own id ver))
  | t => cleanT h0 t

def keepSt (k : Keep) (s : St) : St := match k.soft with
  | true => { tm := nthT k.tm s.tm, h := s.h }
  | false =>
    let h := keepHeap k.ids s.h
    { tm := (nthT k.tm s.tm).map (cleanF k.fz s.h h), h := h.map fun (i, e) => (i, { ver := 0, blk := cleanB h e.blk }) }
/-- the keeps that leave the heap as it is -/
def softOnly (keeps : Nat → Option Keep) (r : Nat) : Option Keep := match keeps r with
  | some k => match k.soft with
    | true => some k
    | false => none
  | none => none

def firstRegion : Code → Option Nat
  | .region id _ _ => some id
  | .seq a b => match firstRegion a with
    | some i => some i
    | none => firstRegion b
  | .cond _ a b => match firstRegion a with
    | some i => some i
    | none => firstRegion b
  | .block _ c => firstRegion c
  | .loop c => firstRegion c
  | .scope c => firstRegion c
  | _ => none

structure Konts (α : Type) where
  norm : St → Option α
  ret : St → Option α
  exit : Nat → St → Option α

/-- the code of a function -/
def run {α : Type} (E : Env) (S : Calls') (keeps : Nat → Option Keep) (fuel : Nat) (f : Nat) : Code → St → Konts α → Option α
  | .skip, s, K => K.norm s
  | .label _, s, K => K.norm s
  | .region id ops draw, s, K =>
    runOps E S ((f * 4096 + id) * 64) ops ops.toList 0 s [] fun s ms => match draw with
      | false => K.norm s
      | true => match okPairs (Region.before ops).toList ms with
        | true => K.norm s
        | false => none
  | .seq a b, s, K => run E S keeps fuel f a s { K with norm := fun s => run E S keeps fuel f b s K }
  | .cond c a b, s, K => match evO E s.get c with
    | .one (.d (.v (.bool t))) => br t (run E S keeps fuel f a s K) (run E S keeps fuel f b s K)
    | _ => none
  | .block id c, s, K => run E S keeps fuel f c s { K with exit := fun i s => match Nat.beq i id with
      | true => K.norm s
      | false => K.exit i s }
  | .loop c, s, K => match (firstRegion c).bind keeps with
    | some k => iter (fun s next => run E S keeps fuel f c s { K with norm := next }) (keepSt k) fuel (keepSt k s)
    | none => iter (fun s next => run E S keeps fuel f c s { K with norm := next }) (fun s => s) fuel s
  | .exit id, s, K => K.exit id s
  | .ret, s, K => K.ret s
  | _, _, _ => none

def resultV (E : Env) (s : St) : ResultVar → Option T
  | .tmp t => some (s.get t)
  | .cell a ty => match isAgg? E.P ty, sizeOf? E.P ty with
    | some agg, some size => (loadR agg size (s.get a)).run s.h.get [] fun t _ => some t
    | _, _ => none

def resultVs (E : Env) (s : St) : List ResultVar → Option (List T)
  | [] => some []
  | r :: l => match resultV E s r, resultVs E s l with
    | some t, some ts => some (t :: ts)
    | _, _ => none

def results (E : Env) (fn : Func) (s : St) : Option T := match resultVs E s fn.results.toList with
  | some [t] => some t
  | some ts => some (.tup ts)
  | none => none

/-- a function's body from arguments and a heap, and what it ends in -/
def body {α : Type} (E : Env) (S : Calls') (keeps : Nat → Option Keep) (fuel : Nat) (f : FuncId) (args : List T) (h : Heap) (κ : T → Heap → Option α) : Option α :=
  match E.P.funcs[f]? with
  | none => none
  | some fn => match fn.body with
    | none => none
    | some c =>
      let fin : St → Option α := fun s => match Ex.results E fn s with
        | some t => κ t s.h
        | none => none
      run E S keeps fuel f c { tm := args ++ List.replicate (fn.ntmps - args.length) .any, h } { norm := fin, ret := fin, exit := fun _ _ => none }

/-- a call with data alone: its result as data -/
def pureBody {α : Type} (E : Env) (S : Calls') (keeps : Nat → Option Keep) (fuel : Nat) (f : FuncId) (args : List T) (κ : T → Option α) : Option α :=
  body E S keeps fuel f args [] fun t h => (resR t).run h.get [] fun t _ => κ t

/-- a call that writes to what it is handed -/
def heapBody {α : Type} (E : Env) (S : Calls') (keeps : Nat → Option Keep) (fuel : Nat) (f : FuncId) (args : List T) (hp : Heap) (κ : T → Heap → List Nat → Option α) : Option α :=
  body E S (softOnly keeps) fuel f args hp fun t h' => κ t h' (h'.map (·.1) ++ hp.map (·.1))
end Go.Ex
