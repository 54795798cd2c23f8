/- Exec, part C: what abstract values stand for in the model's memory, and that it stays so where memory only grows or changes in blocks of the call's own. -/
import Derived.Test.YtfnpmhhlhlbclaaDoorExB
import Derived.Laws.AppendOwn
import Derived.Laws.MakeOwn
namespace Go.Ex

def cellAt (H : Array Obj) (b o : Nat) : Option Value := match H[b]? with
  | some (.cells c _ _) => c[o]?
  | _ => none

theorem cell?_eq (w : World) (b o : Nat) : w.cell? ⟨b, o, none⟩ = cellAt w.heap b o := by
  unfold World.cell? cellAt
  cases h : w.heap[b]? with
  | none => rfl
  | some x => cases x <;> rfl

inductive RepD (H : Array Obj) (Z : Nat → Prop) : D → Value → Prop where
  | v (x : Value) (h : x.oneCell' = true) : RepD H Z (.v x) x
  | nil (sz : Nat) : RepD H Z (.ro true sz []) (.slice none 0 0)
  | roz (sz : Nat) (a : Addr) (cap : Nat) : RepD H Z (.ro false sz []) (.slice (some a) 0 cap)
  | ro (sz : Nat) (es : List (List D)) (b off cap : Nat) (g : Nat → Nat → Value) (hcap : es.length ≤ cap)
      (hsz : ∀ (i : Nat) (cs : List D), es[i]? = some cs → cs.length = sz)
      (hb : es ≠ [] → Z b ∧ b < H.size)
      (hc : ∀ (i : Nat) (cs : List D) (j : Nat) (d : D), es[i]? = some cs → cs[j]? = some d → cellAt H b (off + (i * sz + j)) = some (g i j))
      (hr : ∀ (i : Nat) (cs : List D) (j : Nat) (d : D), es[i]? = some cs → cs[j]? = some d → RepD H Z d (g i j)) :
      RepD H Z (.ro false sz es) (.slice (some ⟨b, off, none⟩) es.length cap)
  | rofn (sz : Nat) (get : Nat → List D) : RepD H Z (.rof true sz 0 get) (.slice none 0 0)
  | rofz (sz : Nat) (get : Nat → List D) (a : Addr) (cap : Nat) : RepD H Z (.rof false sz 0 get) (.slice (some a) 0 cap)
  | rof (sz n : Nat) (get : Nat → List D) (b off cap : Nat) (g : Nat → Nat → Value) (hcap : n ≤ cap)
      (hsz : ∀ i, i < n → (get i).length = sz)
      (hb : 0 < n → Z b ∧ b < H.size)
      (hc : ∀ (i j : Nat) (d : D), i < n → (get i)[j]? = some d → cellAt H b (off + (i * sz + j)) = some (g i j))
      (hr : ∀ (i j : Nat) (d : D), i < n → (get i)[j]? = some d → RepD H Z d (g i j)) :
      RepD H Z (.rof false sz n get) (.slice (some ⟨b, off, none⟩) n cap)
  | pro (cs : List D) (b off : Nat) (g : Nat → Value) (hb : cs ≠ [] → Z b ∧ b < H.size)
      (hc : ∀ (j : Nat) (d : D), cs[j]? = some d → cellAt H b (off + j) = some (g j))
      (hr : ∀ (j : Nat) (d : D), cs[j]? = some d → RepD H Z d (g j)) :
      RepD H Z (.pro cs) (.pointer (some ⟨b, off, none⟩))
  | fn (f : FuncId) (caps : List D) (vs : List Value) (hl : vs.length = caps.length)
      (hr : ∀ (j : Nat) (d : D) (v : Value), caps[j]? = some d → vs[j]? = some v → RepD H Z d v) :
      RepD H Z (.fn f caps) (.func (.func f) #[] vs.toArray)

theorem RepD.one {H : Array Obj} {Z : Nat → Prop} {d : D} {v : Value} (h : RepD H Z d v) : v.oneCell' = true := by
  cases h with
  | v x h => exact h
  | _ => rfl

/-- memory in which what is not the call's own lies as it did -/
structure Kept (H H' : Array Obj) (Z Z' : Nat → Prop) : Prop where
  size : H.size ≤ H'.size
  keep : ∀ b, b < H.size → Z b → H'[b]? = H[b]? ∧ Z' b

theorem cellAt_of {H H' : Array Obj} {b o : Nat} (h : H'[b]? = H[b]?) : cellAt H' b o = cellAt H b o := by unfold cellAt; rw [h]

theorem RepD.mono {H H' : Array Obj} {Z Z' : Nat → Prop} (k : Kept H H' Z Z') {d : D} {v : Value} (h : RepD H Z d v) : RepD H' Z' d v := by
  induction h with
  | v x h => exact .v x h
  | nil sz => exact .nil sz
  | roz sz a cap => exact .roz sz a cap
  | rofz sz get a cap => exact .rofz sz get a cap
  | ro sz es b off cap g hcap hsz hb hc _ ih =>
    refine .ro sz es b off cap g hcap hsz (fun hne => ?_) (fun i cs j d h1 h2 => ?_) ih
    · exact ⟨(k.keep b (hb hne).2 (hb hne).1).2, Nat.lt_of_lt_of_le (hb hne).2 k.size⟩
    · have hne : es ≠ [] := by intro e; simp [e] at h1
      rw [cellAt_of (k.keep b (hb hne).2 (hb hne).1).1]
      exact hc i cs j d h1 h2
  | rofn sz get => exact .rofn sz get
  | rof sz n get b off cap g hcap hsz hb hc _ ih =>
    refine .rof sz n get b off cap g hcap hsz (fun hn => ?_) (fun i j d h1 h2 => ?_) ih
    · exact ⟨(k.keep b (hb hn).2 (hb hn).1).2, Nat.lt_of_lt_of_le (hb hn).2 k.size⟩
    · have hn : 0 < n := by omega
      rw [cellAt_of (k.keep b (hb hn).2 (hb hn).1).1]
      exact hc i j d h1 h2
  | pro cs b off g hb hc _ ih =>
    refine .pro cs b off g (fun hne => ?_) (fun j d h1 => ?_) ih
    · exact ⟨(k.keep b (hb hne).2 (hb hne).1).2, Nat.lt_of_lt_of_le (hb hne).2 k.size⟩
    · have hne : cs ≠ [] := by intro e; simp [e] at h1
      rw [cellAt_of (k.keep b (hb hne).2 (hb hne).1).1]
      exact hc j d h1
  | fn f caps vs hl _ ih => exact .fn f caps vs hl ih

def Blk.live : Blk → Bool
  | .dead => false
  | _ => true
def Blk.isMap : Blk → Bool
  | .mp _ => true
  | _ => false

theorem RepD.rof_ro {H : Array Obj} {Z : Nat → Prop} {nil : Bool} {sz n : Nat} {get : Nat → List D} {v : Value} (h : RepD H Z (.rof nil sz n get) v) : RepD H Z (.ro nil sz ((List.range n).map get)) v := by
  have look : ∀ {i : Nat} {cs : List D}, ((List.range n).map get)[i]? = some cs → i < n ∧ cs = get i := by
    intro i cs hi
    rw [List.getElem?_map] at hi
    by_cases hlt : i < n
    · rw [List.getElem?_range hlt] at hi
      simp at hi
      exact ⟨hlt, hi.symm⟩
    · rw [List.getElem?_eq_none (by simp; omega)] at hi
      simp at hi
  cases h with
  | rofn => exact .nil _
  | rofz _ _ a cap => exact .roz _ a cap
  | rof _ _ _ b off cap g hcap hsz hb hc hr =>
    have hlen : ((List.range n).map get).length = n := by simp
    have key := RepD.ro (H := H) (Z := Z) sz ((List.range n).map get) b off cap g (by rw [hlen]; exact hcap) (fun i cs hi => by obtain ⟨h1, rfl⟩ := look hi; exact hsz i h1)
      (fun hne => hb (Nat.pos_of_ne_zero fun e => hne (by simp [e]))) (fun i cs j d hi hj => by obtain ⟨h1, rfl⟩ := look hi; exact hc i j d h1 hj) (fun i cs j d hi hj => by obtain ⟨h1, rfl⟩ := look hi; exact hr i j d h1 hj)
    rw [hlen] at key
    exact key

/-- memory, the call's own blocks, where they lie, and the callers' own -/
structure Ctx where
  H : Array Obj
  h : Nat → Option Ent
  ρ : Nat → Nat
  F : Nat → Prop
  W : Os × Array (Nat × ByteArray)

/-- what of a world is not memory -/
def sysOf (w : World) : Os × Array (Nat × ByteArray) := (w.os, w.output)

/-- a block that is not the call's own -/
def Ctx.N (X : Ctx) (b : Nat) : Prop := ∀ id en, X.h id = some en → en.blk.live = true → X.ρ id ≠ b
/-- a block that never changes: nobody's own -/
def Ctx.Z (X : Ctx) (b : Nat) : Prop := X.N b ∧ ¬ X.F b

def rowCells (H : Array Obj) (b : Nat) : Nat := match H[b]? with
  | some (.cells c _ _) => c.size
  | _ => 0

inductive RepC (X : Ctx) : C → Value → Prop where
  | any (v : Value) (h : v.oneCell' = true) : RepC X .any v
  | d (x : D) (v : Value) (h : RepD X.H X.Z x v) : RepC X (.d x) v
  | ptr (id ver e o : Nat) (en : Ent) (v : Value) (h1 : v.oneCell' = true) (hh : X.h id = some en) (hv : ver ≤ en.ver)
      (hp : ver = en.ver → ∀ sz n, en.blk.row = some (sz, n) → v = .pointer (some ⟨X.ρ id, e * sz + o, none⟩)) : RepC X (.ptr id ver e o) v
  | own (id ver : Nat) (en : Ent) (v : Value) (h1 : v.oneCell' = true) (hh : X.h id = some en) (hv : ver ≤ en.ver)
      (hp : ver = en.ver → ∀ sz n, en.blk.row = some (sz, n) → ∃ cap, v = .slice (some ⟨X.ρ id, 0, none⟩) n cap ∧ n ≤ cap ∧ cap * sz ≤ rowCells X.H (X.ρ id)) : RepC X (.own id ver) v
  | sl (id ver e len : Nat) (en : Ent) (v : Value) (h1 : v.oneCell' = true) (hh : X.h id = some en) (hv : ver ≤ en.ver)
      (hp : ver = en.ver → ∀ sz n, en.blk.row = some (sz, n) → ∃ off cap, v = .slice (some ⟨X.ρ id, off, none⟩) len cap ∧ e + len ≤ n ∧ n ≤ e + cap ∧ (e + cap) * sz ≤ rowCells X.H (X.ρ id) ∧ (off = e * sz ∨ cap = 0)) :
      RepC X (.sl id ver e len) v
  | mp (id ver : Nat) (en : Ent) (v : Value) (h1 : v.oneCell' = true) (hh : X.h id = some en) (hv : ver ≤ en.ver)
      (hp : ver = en.ver → en.blk.isMap = true → v = .map (some (X.ρ id))) : RepC X (.mp id ver) v
  | fn (f : FuncId) (caps : List C) (vs : List Value) (hl : vs.length = caps.length)
      (hr : ∀ (j : Nat) (c : C) (v : Value), caps[j]? = some c → vs[j]? = some v → RepC X c v) : RepC X (.fn f caps) (.func (.func f) #[] vs.toArray)

theorem RepC.one {X : Ctx} {c : C} {v : Value} (h : RepC X c v) : v.oneCell' = true := by
  cases h with
  | any v h => exact h
  | d x v h => exact h.one
  | ptr _ _ _ _ _ _ h1 => exact h1
  | own _ _ _ _ h1 => exact h1
  | sl _ _ _ _ _ _ h1 => exact h1
  | mp _ _ _ _ h1 => exact h1
  | fn => rfl

inductive RepT (X : Ctx) : T → Value → Prop where
  | any (v : Value) : RepT X .any v
  | one (c : C) (v : Value) (h : RepC X c v) : RepT X (.one c) v
  | agg (cs : List C) (vs : List Value) (hl : vs.length = cs.length)
      (hr : ∀ (j : Nat) (c : C) (v : Value), cs[j]? = some c → vs[j]? = some v → RepC X c v) : RepT X (.agg cs) (.agg vs.toArray)
  | aggd (ds : List D) (vs : List Value) (hl : vs.length = ds.length)
      (hr : ∀ (j : Nat) (d : D) (v : Value), ds[j]? = some d → vs[j]? = some v → RepD X.H X.Z d v) : RepT X (.aggd ds) (.agg vs.toArray)
  | tup (ts : List T) (vs : List Value) (hl : vs.length = ts.length)
      (hr : ∀ (j : Nat) (t : T) (v : Value), ts[j]? = some t → vs[j]? = some v → RepT X t v) : RepT X (.tup ts) (.tuple vs.toArray)

/-- what a block of the call's own holds -/
def RepB (X : Ctx) (id : Nat) : Blk → Prop
  | .dead => True
  | .dat _ sz es => ∃ c ty, X.H[X.ρ id]? = some (.cells c ty (0, 0)) ∧ (∀ (i : Nat) (cs : List D), es[i]? = some cs → cs.length = sz) ∧ es.length * sz ≤ c.size ∧
      ∀ (i : Nat) (cs : List D) (j : Nat) (d : D), es[i]? = some cs → cs[j]? = some d → ∃ v, c[i * sz + j]? = some v ∧ RepD X.H X.Z d v
  | .refs sz es => ∃ c ty, X.H[X.ρ id]? = some (.cells c ty (0, 0)) ∧ (∀ (i : Nat) (cs : List C), es[i]? = some cs → cs.length = sz) ∧ es.length * sz ≤ c.size ∧
      ∀ (i : Nat) (cs : List C) (j : Nat) (d : C), es[i]? = some cs → cs[j]? = some d → ∃ v, c[i * sz + j]? = some v ∧ RepC X d v
  | .mp ents => ∃ (es : Array MapEntry) (clock : Nat), X.H[X.ρ id]? = some (.map es clock) ∧ es.size = ents.length ∧
      ∀ (i : Nat) (k : Value) (t : T), ents[i]? = some (k, t) → ∃ e, es[i]? = some e ∧ e.key = k ∧ RepT X t e.val

structure RepH (X : Ctx) : Prop where
  blk : ∀ id en, X.h id = some en → RepB X id en.blk
  inj : ∀ id en id' en', X.h id = some en → X.h id' = some en' → en.blk.live = true → en'.blk.live = true → X.ρ id = X.ρ id' → id = id'
  own : ∀ id en, X.h id = some en → en.blk.live = true → ¬ X.F (X.ρ id)
  far : ∀ b, X.F b → b < X.H.size

/-- one memory behind another: what is not the call's own lies as it did, and each reference says at most what it said -/
structure Le (X X' : Ctx) : Prop where
  size : X.H.size ≤ X'.H.size
  keep : ∀ b, b < X.H.size → X.N b → X'.H[b]? = X.H[b]? ∧ X'.N b
  foreign : X'.F = X.F
  sys : X'.W = X.W
  ref : ∀ id en, X.h id = some en → ∃ en', X'.h id = some en' ∧ en.ver ≤ en'.ver ∧ (en.ver = en'.ver →
    (∀ q, en'.blk.row = some q → en.blk.row = some q ∧ X'.ρ id = X.ρ id ∧ rowCells X.H (X.ρ id) ≤ rowCells X'.H (X.ρ id)) ∧
    (en'.blk.isMap = true → en.blk.isMap = true ∧ X'.ρ id = X.ρ id))

theorem Le.kept {X X' : Ctx} (l : Le X X') : Kept X.H X'.H X.Z X'.Z := ⟨l.size, fun b hb hz => ⟨(l.keep b hb hz.1).1, (l.keep b hb hz.1).2, by rw [l.foreign]; exact hz.2⟩⟩

theorem Le.refl (X : Ctx) : Le X X := ⟨Nat.le_refl _, fun _ _ h => ⟨rfl, h⟩, rfl, rfl, fun _ en h => ⟨en, h, Nat.le_refl _, fun _ => ⟨fun _ hq => ⟨hq, rfl, Nat.le_refl _⟩, fun hm => ⟨hm, rfl⟩⟩⟩⟩

theorem Le.trans {X Y W : Ctx} (a : Le X Y) (b : Le Y W) : Le X W := by
  refine ⟨Nat.le_trans a.size b.size, fun k hk hz => ?_, b.foreign.trans a.foreign, b.sys.trans a.sys, fun id en h => ?_⟩
  · have h1 := a.keep k hk hz
    have h2 := b.keep k (Nat.lt_of_lt_of_le hk a.size) h1.2
    exact ⟨h2.1.trans h1.1, h2.2⟩
  · obtain ⟨en1, h1, v1, r1⟩ := a.ref id en h
    obtain ⟨en2, h2, v2, r2⟩ := b.ref id en1 h1
    refine ⟨en2, h2, Nat.le_trans v1 v2, fun e => ?_⟩
    have e1 : en.ver = en1.ver := by omega
    have e2 : en1.ver = en2.ver := by omega
    refine ⟨fun q hq => ?_, fun hm => ?_⟩
    · have x2 := (r2 e2).1 q hq
      have x1 := (r1 e1).1 q x2.1
      refine ⟨x1.1, x2.2.1.trans x1.2.1, Nat.le_trans x1.2.2 ?_⟩
      have := x2.2.2
      rwa [x1.2.1] at this
    · have x2 := (r2 e2).2 hm
      have x1 := (r1 e1).2 x2.1
      exact ⟨x1.1, x2.2.trans x1.2⟩

theorem RepC.mono {X X' : Ctx} (l : Le X X') {c : C} {v : Value} (h : RepC X c v) : RepC X' c v := by
  induction h with
  | any v h => exact .any v h
  | d x v h => exact .d x v (h.mono l.kept)
  | ptr id ver e o en v h1 hh hv hp =>
    obtain ⟨en', h', v', r⟩ := l.ref id en hh
    refine .ptr id ver e o en' v h1 h' (Nat.le_trans hv v') fun ev sz n hq => ?_
    have e1 : en.ver = en'.ver := by omega
    have x := (r e1).1 _ hq
    rw [x.2.1]
    exact hp (by omega) sz n x.1
  | own id ver en v h1 hh hv hp =>
    obtain ⟨en', h', v', r⟩ := l.ref id en hh
    refine .own id ver en' v h1 h' (Nat.le_trans hv v') fun ev sz n hq => ?_
    have e1 : en.ver = en'.ver := by omega
    have x := (r e1).1 _ hq
    rw [x.2.1]
    obtain ⟨cap, a1, a2, a3⟩ := hp (by omega) sz n x.1
    exact ⟨cap, a1, a2, Nat.le_trans a3 x.2.2⟩
  | sl id ver e len en v h1 hh hv hp =>
    obtain ⟨en', h', v', r⟩ := l.ref id en hh
    refine .sl id ver e len en' v h1 h' (Nat.le_trans hv v') fun ev sz n hq => ?_
    have e1 : en.ver = en'.ver := by omega
    have x := (r e1).1 _ hq
    rw [x.2.1]
    obtain ⟨off, cap, a1, a2, a3, a4, a5⟩ := hp (by omega) sz n x.1
    exact ⟨off, cap, a1, a2, a3, Nat.le_trans a4 x.2.2, a5⟩
  | mp id ver en v h1 hh hv hp =>
    obtain ⟨en', h', v', r⟩ := l.ref id en hh
    refine .mp id ver en' v h1 h' (Nat.le_trans hv v') fun ev hq => ?_
    have e1 : en.ver = en'.ver := by omega
    have x := (r e1).2 hq
    rw [x.2]
    exact hp (by omega) x.1
  | fn f caps vs hl _ ih => exact .fn f caps vs hl ih

theorem RepT.mono {X X' : Ctx} (l : Le X X') {t : T} {v : Value} (h : RepT X t v) : RepT X' t v := by
  induction h with
  | any v => exact .any v
  | one c v h => exact .one c v (h.mono l)
  | agg cs vs hl hr => exact .agg cs vs hl fun j c v h1 h2 => (hr j c v h1 h2).mono l
  | aggd ds vs hl hr => exact .aggd ds vs hl fun j d v h1 h2 => (hr j d v h1 h2).mono l.kept
  | tup ts vs hl _ ih => exact .tup ts vs hl ih

/-! ### reading -/
def Rd.val {α : Type} (h : Nat → Option Ent) : Rd α → Option (α × List Nat)
  | .ret a => some (a, [])
  | .fail => none
  | .get i k => match (k (h i)).val h with
    | some (a, l) => some (a, i :: l)
    | none => none
  | .br b x y => match b with
    | true => x.val h
    | false => y.val h

/-- what a reading comes to -/
def Rd.Out {α : Type} (h : Nat → Option Ent) (r : Rd α) (a : α) : Prop := ∃ l, r.val h = some (a, l)

section
variable {α β : Type} {h : Nat → Option Ent}
@[simp] theorem Rd.out_ret (a b : α) : (Rd.ret a : Rd α).Out h b ↔ a = b := by simp [Rd.Out, Rd.val]
@[simp] theorem Rd.out_fail (b : α) : (Rd.fail : Rd α).Out h b ↔ False := by simp [Rd.Out, Rd.val]
@[simp] theorem Rd.out_get (i : Nat) (k : Option Ent → Rd α) (b : α) : (Rd.get i k).Out h b ↔ (k (h i)).Out h b := by
  have e : (Rd.get i k).val h = match (k (h i)).val h with
    | some (a, l) => some (a, i :: l)
    | none => none := rfl
  unfold Rd.Out
  rw [e]
  cases hv : (k (h i)).val h with
  | none => simp
  | some p => obtain ⟨x, y⟩ := p; simp
@[simp] theorem Rd.out_br (c : Bool) (x y : Rd α) (b : α) : (Rd.br c x y).Out h b ↔ (c = true ∧ x.Out h b) ∨ (c = false ∧ y.Out h b) := by
  cases c <;> simp [Rd.Out, Rd.val]
theorem Rd.out_bind {r : Rd α} {f : α → Rd β} {b : β} : (r.bind f).Out h b ↔ ∃ a, r.Out h a ∧ (f a).Out h b := by
  induction r with
  | ret a => simp [Rd.bind]
  | fail => simp [Rd.bind]
  | get i k ih => simp [Rd.bind, ih]
  | br c x y ihx ihy => cases c <;> simp [Rd.bind, ihx, ihy]
theorem Rd.out_opt {o : Option α} {b : α} : (Rd.opt o).Out h b ↔ o = some b := by
  cases o <;> simp [Rd.opt]
end

/-- what a reading comes to that reads within a set -/
def Rd.OutIn {α : Type} (h : Nat → Option Ent) (L : Nat → Prop) (r : Rd α) (a : α) : Prop := ∃ l, r.val h = some (a, l) ∧ ∀ i, i ∈ l → L i

theorem Rd.OutIn.out {α : Type} {h : Nat → Option Ent} {L : Nat → Prop} {r : Rd α} {a : α} (o : r.OutIn h L a) : r.Out h a := let ⟨l, hl, _⟩ := o; ⟨l, hl⟩

section
variable {α β : Type} {h : Nat → Option Ent} {L : Nat → Prop}
@[simp] theorem Rd.outIn_ret (a b : α) : (Rd.ret a : Rd α).OutIn h L b ↔ a = b := by
  constructor
  · rintro ⟨l, h1, _⟩
    simp [Rd.val] at h1
    exact h1.1
  · rintro rfl
    exact ⟨[], rfl, by simp⟩
@[simp] theorem Rd.outIn_fail (b : α) : (Rd.fail : Rd α).OutIn h L b ↔ False := by simp [Rd.OutIn, Rd.val]
@[simp] theorem Rd.outIn_get (i : Nat) (k : Option Ent → Rd α) (b : α) : (Rd.get i k).OutIn h L b ↔ L i ∧ (k (h i)).OutIn h L b := by
  have e : (Rd.get i k).val h = match (k (h i)).val h with
    | some (a, l) => some (a, i :: l)
    | none => none := rfl
  unfold Rd.OutIn
  rw [e]
  cases hv : (k (h i)).val h with
  | none => simp
  | some p =>
    obtain ⟨x, y⟩ := p
    constructor
    · rintro ⟨l, h1, h2⟩
      simp only [Option.some.injEq, Prod.mk.injEq] at h1
      obtain ⟨rfl, rfl⟩ := h1
      exact ⟨h2 i (by simp), y, by simp, fun j hj => h2 j (by simp [hj])⟩
    · rintro ⟨h0, l, h1, h2⟩
      simp only [Option.some.injEq, Prod.mk.injEq] at h1
      obtain ⟨rfl, rfl⟩ := h1
      refine ⟨i :: y, by simp, fun j hj => ?_⟩
      rcases List.mem_cons.1 hj with rfl | hj
      · exact h0
      · exact h2 j hj
@[simp] theorem Rd.outIn_br (c : Bool) (x y : Rd α) (b : α) : (Rd.br c x y).OutIn h L b ↔ (c = true ∧ x.OutIn h L b) ∨ (c = false ∧ y.OutIn h L b) := by
  cases c <;> simp [Rd.OutIn, Rd.val]
theorem Rd.outIn_bind {r : Rd α} {f : α → Rd β} {b : β} : (r.bind f).OutIn h L b ↔ ∃ a, r.OutIn h L a ∧ (f a).OutIn h L b := by
  induction r with
  | ret a => simp [Rd.bind]
  | fail => simp [Rd.bind]
  | get i k ih => simp [Rd.bind, ih, and_assoc]
  | br c x y ihx ihy => cases c <;> simp [Rd.bind, ihx, ihy]
end

/-- The interpreter's reading comes to a value. -/
theorem Rd.run_eq {α β : Type} {h : Nat → Option Ent} (r : Rd α) : ∀ (acc : List Nat) (κ : α → List Nat → Option β) (x : β), r.run h acc κ = some x →
    ∃ a l, r.val h = some (a, l) ∧ κ a (l.reverse ++ acc) = some x := by
  induction r with
  | ret a => intro acc κ x hx; exact ⟨a, [], rfl, by simpa [Rd.run] using hx⟩
  | fail => intro acc κ x hx; simp [Rd.run] at hx
  | get i k ih =>
    intro acc κ x hx
    obtain ⟨a, l, h1, h2⟩ := ih (h i) (i :: acc) κ x hx
    exact ⟨a, i :: l, by simp [Rd.val, h1], by simpa using h2⟩
  | br b p q ihp ihq =>
    intro acc κ x hx
    cases b
    · exact ihq acc κ x hx
    · exact ihp acc κ x hx

/-- A reading hangs on what it has read alone. -/
theorem Rd.val_local {α : Type} {h h' : Nat → Option Ent} (r : Rd α) : ∀ {a : α} {l : List Nat}, r.val h = some (a, l) → (∀ i, i ∈ l → h' i = h i) → r.val h' = some (a, l) := by
  induction r with
  | ret a => intro b l hb _; exact hb
  | fail => intro b l hb _; simp [Rd.val] at hb
  | get i k ih =>
    intro b l hb hl
    simp only [Rd.val] at hb ⊢
    cases hv : (k (h i)).val h with
    | none => rw [hv] at hb; simp at hb
    | some p =>
      obtain ⟨a', l'⟩ := p
      rw [hv] at hb
      simp only [Option.some.injEq, Prod.mk.injEq] at hb
      obtain ⟨rfl, rfl⟩ := hb
      have hi : h' i = h i := hl i (by simp)
      rw [hi, ih (h i) hv fun j hj => hl j (by simp [hj])]
  | br b p q ihp ihq =>
    intro c l hc hl
    cases b
    · exact ihq hc hl
    · exact ihp hc hl

end Go.Ex
