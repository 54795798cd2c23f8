/- Exec, part Q: one operation within a region, from any state that agrees with the text's on what it reads. -/
import Derived.Test.YtfnpmhhlhlbclaaDoorExO
import Derived.Test.YtfnpmhhlhlbclaaDoorExP
namespace Go.Ex

theorem absOp_congr {E : Env} {site : Nat} {ev ev' : Operand → T} (o : Oper) (h : ∀ x ∈ o.op.operands, ev x = ev' x) : absOp E site ev o = absOp E site ev' o := by
  obtain ⟨dst, op, type, pos, after, guard⟩ := o
  have pairs : ∀ ps : Array (Nat × Operand), (∀ x ∈ ps.map (·.2), ev x = ev' x) → (ps.toList.map fun (i, x) => (i, ev x)) = (ps.toList.map fun (i, x) => (i, ev' x)) := fun ps hp =>
    List.map_congr_left fun p hm => by
      obtain ⟨i, x⟩ := p
      simp only [hp x (Array.mem_map.2 ⟨(i, x), Array.mem_toList_iff.1 hm, rfl⟩)]
  have lists : ∀ ps : Array Operand, (∀ x ∈ ps, ev x = ev' x) → ps.toList.map ev = ps.toList.map ev' := fun ps hp => List.map_congr_left fun x hx => hp x (Array.mem_toList_iff.1 hx)
  cases op <;> simp only [Op.operands] at h <;> simp only [absOp]
  case build t ps => rw [pairs ps fun x hx => h x (by simpa using hx)]
  case buildSlice t n ps => rw [pairs ps fun x hx => h x (by simpa using hx)]
  case makeFunc fn first captured =>
    cases fn with
    | func f =>
      have hl := lists captured fun x hx => h x (by simp [hx])
      cases hc : captured.toList with
      | nil => simp only [hc]
      | cons y ys =>
        rw [hc] at hl
        simp only [hc, hl]
    | _ => rfl
  case call c =>
    have hargs := lists c.args fun x hx => h x (by simp [Call.operands, hx])
    rw [hargs]
    cases hc : c.callee with
    | value f => have hf : ev f = ev' f := h f (by simp [Call.operands, hc]); simp only [hf]
    | invoke r m => rfl
    | builtin b => rfl
  case slice t x lo hi mx => cases lo <;> cases hi <;> cases mx <;> simp_all
  all_goals (first | rfl | (simp_all; done))

/-- what is known of the globals -/
structure GlobAt (H : Array Obj) (Z : Nat → Prop) (g : Nat) (cs : List D) : Prop where
  rep : RepD H Z (.pro cs) (.pointer (some ⟨g, 0, none⟩))
  far : Z g ∧ g < H.size
  all : ∃ c ty fr, H[g]? = some (.cells c ty fr) ∧ c.size = cs.length

theorem GlobAt.mono {H H' : Array Obj} {Z Z' : Nat → Prop} (k : Kept H H' Z Z') {g : Nat} {cs : List D} (h : GlobAt H Z g cs) : GlobAt H' Z' g cs := by
  obtain ⟨h1, h2⟩ := k.keep g h.far.2 h.far.1
  refine ⟨h.rep.mono k, ⟨h2, Nat.lt_of_lt_of_le h.far.2 k.size⟩, ?_⟩
  rw [h1]
  exact h.all

def GlobOK (E : Env) (X : Ctx) : Prop := ∀ g cs, E.G g = some cs → GlobAt X.H X.Z g cs

theorem GlobOK.mono {E : Env} {X X' : Ctx} (l : Le X X') (h : GlobOK E X) : GlobOK E X' := fun g cs hg => (h g cs hg).mono l.kept

/-- a world whose memory, and what else it holds, is as told -/
def Ctx.Is (X : Ctx) (w : World) : Prop := w.heap = X.H ∧ sysOf w = X.W

/-- a concrete state stands for an abstract one -/
structure Rel (E : Env) (X : Ctx) (tm : Nat → T) (n : Nat) (a : Act) (w : World) : Prop where
  heap : X.Is w
  rep : RepH X
  tmp : ∀ t, RepT X (tm t) (a.tmps.getD t undef)
  len : n ≤ a.tmps.size
  glob : GlobOK E X
  dfr : a.defers = []

theorem Rel.ev {E : Env} {X : Ctx} {tm : Nat → T} {n : Nat} {a : Act} {w : World} (r : Rel E X tm n a w) (x : Operand) : RepT X (evO E tm x) (a.eval x) := by
  cases x with
  | tmp t => exact r.tmp t
  | const v => exact RepT.ofValue v
  | global g =>
    simp only [evO, Act.eval]
    cases hg : E.G g with
    | none => exact .any _
    | some cs => exact .one _ _ (.d _ _ (r.glob g cs hg).rep)
  | func f => exact .one _ _ (.d _ _ (.v _ rfl))

theorem put_getD (a : Act) (dst : Option Tmp) (v : Value) (t : Nat) : (a.put dst v).tmps.getD t undef = if dst = some t ∧ t < a.tmps.size then v else a.tmps.getD t undef := by
  cases dst with
  | none => simp [Act.put]
  | some d =>
    simp only [Act.put, Array.getD_eq_getD_getElem?, Array.getElem?_setIfInBounds]
    by_cases hd : d = t
    · subst hd
      by_cases hl : d < a.tmps.size
      · simp [hl]
      · simp [hl]
    · have : ¬ (some d = some t ∧ t < a.tmps.size) := fun e => hd (Option.some.inj e.1)
      rw [if_neg this, if_neg hd]

theorem St.get_put (s : St) (dst : Option Tmp) (v : T) (t : Nat) : (s.put dst v).get t = if dst = some t ∧ t < s.tm.length then v else s.get t := by
  cases dst with
  | none => simp [St.put]
  | some d =>
    simp only [St.put, St.get, List.getD_eq_getElem?_getD, List.getElem?_set]
    by_cases hd : d = t
    · subst hd
      by_cases hl : d < s.tm.length
      · simp [hl]
      · simp [hl]
    · have : ¬ (some d = some t ∧ t < s.tm.length) := fun e => hd (Option.some.inj e.1)
      rw [if_neg this, if_neg hd]

theorem St.get_big (s : St) {t : Nat} (h : s.tm.length ≤ t) : s.get t = .any := by
  simp [St.get, List.getD_eq_getElem?_getD, List.getElem?_eq_none h]

theorem St.put_len (s : St) (dst : Option Tmp) (v : T) : (s.put dst v).tm.length = s.tm.length := by cases dst <;> simp [St.put]
theorem St.put_h (s : St) (dst : Option Tmp) (v : T) : (s.put dst v).h = s.h := by cases dst <;> rfl

theorem Rel.put {E : Env} {X X' : Ctx} {tm : Nat → T} {s : St} {a : Act} {w w' : World} (r : Rel E X tm s.tm.length a w) (le : Le X X') (hw : X'.Is w') (hX : RepH X') {dst : Option Tmp} {t : T} {v : Value} (ht : RepT X' t v):
    Rel E X' (fun d => if dst = some d then (s.put dst t).get d else tm d) s.tm.length (a.put dst v) w' := by
  refine ⟨hw, hX, fun d => ?_, ?_, r.glob.mono le, ?_⟩
  · rw [put_getD]
    by_cases hd : dst = some d
    · simp only [hd, if_true, true_and]
      rw [St.get_put]
      by_cases hl : d < s.tm.length
      · rw [if_pos ⟨rfl, hl⟩, if_pos (Nat.lt_of_lt_of_le hl r.len)]
        exact ht
      · rw [if_neg (fun e => hl e.2), s.get_big (by omega)]
        exact .any _
    · simp only [hd, if_false, false_and]
      exact (r.tmp d).mono le
  · cases dst <;> simp [Act.put, r.len]
  · cases dst <;> simp [Act.put, r.dfr]

/-- the calls' answers hold -/
def Callable (P : Program) (g : FuncId) : Prop := ∃ fn c, P.funcs[g]? = some fn ∧ fn.body = some c ∧ fn.name ≠ "runtime.NumGoroutine"

structure SOK (E : Env) (S : Calls') : Prop where
  pdet : ∀ {α : Type} g args (κ : T → Option α) x, S.pure g args κ = some x → ∃ r, κ r = some x ∧ ∀ {β : Type} (κ' : T → Option β), S.pure g args κ' = κ' r
  hdet : ∀ {α : Type} g args hp (κ : T → Heap → List Nat → Option α) x, S.heap g args hp κ = some x → ∃ r h' ws, κ r h' ws = some x ∧ ∀ {β : Type} (κ' : T → Heap → List Nat → Option β), S.heap g args hp κ' = κ' r h' ws
  pure : ∀ g args r, S.pure g args some = some r → Callable E.P g ∧ ∀ (X : Ctx) (w : World) (vals : List Value), X.h = (fun _ => none) → (∀ b, X.F b → b < X.H.size) → X.Is w → GlobOK E X → RepTs X args vals →
    Calls E.P g vals.toArray w fun e w' => ∃ v, e = .returned v ∧ sysOf w' = sysOf w ∧ w.heap.size ≤ w'.heap.size ∧ (∀ b, b < w.heap.size → w'.heap[b]? = w.heap[b]?) ∧ RepT { X with H := w'.heap } r v
  heap : ∀ g args hp r h' ws, S.heap g args hp (fun r h ws => some (r, h, ws)) = some (r, h', ws) → Callable E.P g ∧ (∀ id, id ∉ ws → h'.get id = hp.get id) ∧ ∀ (X : Ctx) (w : World) (vals : List Value), X.h = hp.get → X.Is w → RepH X → GlobOK E X → RepTs X args vals →
    Calls E.P g vals.toArray w fun e w' => ∃ v X', e = .returned v ∧ X'.Is w' ∧ X'.h = h'.get ∧ Le X X' ∧ RepH X' ∧ RepT X' r v

theorem callFunc_enter {P : Program} {g : FuncId} {vals : Array Value} {w : World} (h : Callable P g) : (callFunc g vals).run P w = .ok (.enter g vals) w := by
  obtain ⟨fn, c, h1, h2, h3⟩ := h
  simp [callFunc, h1, h2, h3]

/-! ### the steps of the text's run -/
def Wanted (ops : Array Oper) (o : Oper) (s : St) : Prop := match o.guard with
  | none => True
  | some (j, want) => ∃ d, dstOf ops j = some d ∧ s.get d = boolT want

inductive Stp (E : Env) (S : Calls') (base : Nat) (ops : Array Oper) (i : Nat) (o : Oper) (s : St) : St → Option Mk → Prop where
  | skip (j : Nat) (want : Bool) (d : Tmp) (hg : o.guard = some (j, want)) (hd : dstOf ops j = some d) (hs : s.get d = unitT ∨ s.get d = boolT (!want)) : Stp E S base ops i o s (s.put o.dst unitT) none
  | eff (hw : Wanted ops o s) (e : Eff) (l : List Nat) (hv : (absOp E (base + i) (evO E s.get) o).val s.h.get = some (.eff e, l)) :
      Stp E S base ops i o s { (s.put o.dst e.val) with h := s.h.setAll e.ws } (some { i, call := false, rs := l.reverse ++ [], ws := e.ws.map (·.1) })
  | flat (hw : Wanted ops o s) (g : FuncId) (args : List T) (gone : List (Nat × Ent)) (r : T) (l : List Nat) (hv : (absOp E (base + i) (evO E s.get) o).val s.h.get = some (.callp g args gone, l)) (hr : S.pure g args some = some r) (hf : isFlat r = true) :
      Stp E S base ops i o s (s.put o.dst r) (some { i, call := false, rs := l.reverse ++ [], ws := [] })
  | kill (hw : Wanted ops o s) (g : FuncId) (args : List T) (gone : List (Nat × Ent)) (r : T) (l : List Nat) (hv : (absOp E (base + i) (evO E s.get) o).val s.h.get = some (.callp g args gone, l)) (hr : S.pure g args some = some r) :
      Stp E S base ops i o s { (s.put o.dst r) with h := s.h.setAll (killAll s.h (l.reverse ++ [])) } (some { i, call := false, rs := l.reverse ++ [], ws := l.reverse ++ [] })
  | calls (hw : Wanted ops o s) (g : FuncId) (args : List T) (r : T) (h' : Heap) (ws : List Nat) (l : List Nat) (hv : (absOp E (base + i) (evO E s.get) o).val s.h.get = some (.calls g args, l)) (hr : S.heap g args s.h (fun r h ws => some (r, h, ws)) = some (r, h', ws)) :
      Stp E S base ops i o s { (s.put o.dst r) with h := h' } (some { i, call := true, rs := l.reverse ++ [], ws })

theorem runOp_stp {α : Type} {E : Env} {S : Calls'} (ok : SOK E S) {base i : Nat} {ops : Array Oper} {o : Oper} {s : St} {ms : List Mk} {κ : St → List Mk → Option α} {x : α} (hw : Wanted ops o s)
    (h : runOp E S (base + i) o i s ms κ = some x) : ∃ s' m, Stp E S base ops i o s s' (some m) ∧ κ s' (m :: ms) = some x := by
  unfold runOp at h
  obtain ⟨st, l, hv, h⟩ := Rd.run_eq _ _ _ _ h
  cases st with
  | eff e => exact ⟨_, _, .eff hw e l hv, h⟩
  | callp g args gone =>
    simp only at h
    obtain ⟨r, h, hr⟩ := ok.pdet _ _ _ _ h
    cases hf : isFlat r with
    | true => rw [hf] at h; exact ⟨_, _, .flat hw g args gone r l hv (hr some) hf, h⟩
    | false => rw [hf] at h; exact ⟨_, _, .kill hw g args gone r l hv (hr some), h⟩
  | calls g args =>
    simp only at h
    obtain ⟨r, h', ws, h, hr⟩ := ok.hdet _ _ _ _ _ h
    exact ⟨_, _, .calls hw g args r h' ws l hv (hr _), h⟩

/-- the run in the text's order -/
inductive Trace (E : Env) (S : Calls') (base : Nat) (ops : Array Oper) : Nat → List Oper → St → List Mk → St → List Mk → Prop where
  | nil (i : Nat) (s : St) (ms : List Mk) : Trace E S base ops i [] s ms s ms
  | cons (i : Nat) (o : Oper) (rest : List Oper) (s s1 s' : St) (m : Option Mk) (ms ms' : List Mk) (h : Stp E S base ops i o s s1 m) (ht : Trace E S base ops (i + 1) rest s1 (m.toList ++ ms) s' ms') :
      Trace E S base ops i (o :: rest) s ms s' ms'

theorem put_same (s : St) (d : Tmp) : s.put (some d) (s.get d) = s := by
  obtain ⟨tm, h⟩ := s
  simp only [St.put, St.get, St.mk.injEq, and_true]
  by_cases hd : d < tm.length
  · rw [List.getD_eq_getElem?_getD, List.getElem?_eq_getElem hd]
    simp
  · rw [List.set_eq_of_length_le (Nat.le_of_not_lt hd)]

theorem runOps_trace {α : Type} {E : Env} {S : Calls'} (ok : SOK E S) {base : Nat} {ops : Array Oper} {κ : St → List Mk → Option α} {x : α} : ∀ {l : List Oper} {i : Nat} {s : St} {ms : List Mk},
    runOps E S base ops l i s ms κ = some x → ∃ s' ms', Trace E S base ops i l s ms s' ms' ∧ κ s' ms' = some x
  | [], i, s, ms, h => ⟨s, ms, .nil i s ms, h⟩
  | o :: rest, i, s, ms, h => by
    unfold runOps at h
    have go : Wanted ops o s → runOp E S (base + i) o i s ms (fun s ms => runOps E S base ops rest (i + 1) s ms κ) = some x → ∃ s' ms', Trace E S base ops i (o :: rest) s ms s' ms' ∧ κ s' ms' = some x := by
      intro hw h
      obtain ⟨s1, m, hs, h⟩ := runOp_stp ok hw h
      obtain ⟨s', ms', ht, hk⟩ := runOps_trace ok h
      exact ⟨s', ms', .cons i o rest s s1 s' (some m) ms ms' hs ht, hk⟩
    have no : ∀ {j : Nat} {want : Bool} {d : Tmp}, o.guard = some (j, want) → dstOf ops j = some d → (s.get d = unitT ∨ s.get d = boolT (!want)) → runOps E S base ops rest (i + 1) (s.put o.dst unitT) ms κ = some x →
        ∃ s' ms', Trace E S base ops i (o :: rest) s ms s' ms' ∧ κ s' ms' = some x := by
      intro j want d hg hd hs h
      obtain ⟨s', ms', ht, hk⟩ := runOps_trace ok h
      exact ⟨s', ms', .cons i o rest s _ s' none ms ms' (.skip j want d hg hd hs) ht, hk⟩
    split at h
    · rename_i hg
      exact go (by simp [Wanted, hg]) h
    · rename_i j want hg
      split at h
      · rename_i d hd
        split at h
        · rename_i b hb
          have hput : s.put (some d) (boolT b) = s := by
            have := put_same s d
            rw [hb] at this
            exact this
          cases want with
          | true =>
            cases b with
            | true => exact go (by simp only [Wanted, hg]; exact ⟨d, hd, hb⟩) (by simpa [br, hput] using h)
            | false => exact no hg hd (.inr hb) (by simpa [br, hput] using h)
          | false =>
            cases b with
            | true => exact no hg hd (.inr hb) (by simpa [br, hput] using h)
            | false => exact go (by simp only [Wanted, hg]; exact ⟨d, hd, hb⟩) (by simpa [br, hput] using h)
        · rename_i hb
          exact no hg hd (.inl hb) h
        · simp at h
      · simp at h
end Go.Ex
