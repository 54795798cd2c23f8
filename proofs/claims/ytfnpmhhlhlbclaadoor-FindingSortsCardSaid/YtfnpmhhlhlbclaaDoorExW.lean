/- Exec, part W: calls. -/
import Derived.Test.YtfnpmhhlhlbclaaDoorExV
namespace Go.Ex

/-- what is seen of a program's functions once -/
def progOK (P : Program) : Bool := P.funcs.toList.all fun fn => fn.name != "runtime.NumGoroutine" && (match fn.body with
  | some c => codeOK c
  | none => true)

theorem progOK_spec {P : Program} (h : progOK P = true) {f : FuncId} {fn : Func} {c : Code} (hf : P.funcs[f]? = some fn) (hc : fn.body = some c) : Callable P f ∧ codeOK c = true := by
  unfold progOK at h
  rw [List.all_eq_true] at h
  have := h fn (by rw [Array.mem_toList_iff]; exact Array.mem_of_getElem? hf)
  simp only [Bool.and_eq_true, bne_iff_ne, ne_eq, hc] at this
  exact ⟨⟨fn, c, hf, hc, this.1⟩, this.2⟩

/-- what is not the call's own stays -/
structure Weak (X Y : Ctx) : Prop where
  size : X.H.size ≤ Y.H.size
  keep : ∀ b, b < X.H.size → X.N b → Y.H[b]? = X.H[b]? ∧ Y.N b
  foreign : Y.F = X.F
  sys : Y.W = X.W

theorem weak_way (keeps : Nat → Option Keep) : Way Weak keeps where
  le _ _ l := ⟨l.size, l.keep, l.foreign, l.sys⟩
  trans _ _ _ a b := ⟨Nat.le_trans a.size b.size, fun k hk hz => by
    have h1 := a.keep k hk hz
    have h2 := b.keep k (Nat.lt_of_lt_of_le hk a.size) h1.2
    exact ⟨h2.1.trans h1.1, h2.2⟩, b.foreign.trans a.foreign, b.sys.trans a.sys⟩
  keep _ k _ X Y h := by
    unfold KeepRel at h
    cases hk : k.soft with
    | true =>
      rw [hk] at h
      simp only at h
      subst h
      exact ⟨Nat.le_refl _, fun _ _ hz => ⟨rfl, hz⟩, rfl, rfl⟩
    | false =>
    rw [hk] at h
    obtain ⟨h1, h2, h3, h4⟩ := h
    exact ⟨by rw [h1]; exact Nat.le_refl _, fun b _ hz => ⟨by rw [h1], h2 b hz⟩, h3, h4⟩

theorem le_way (keeps : Nat → Option Keep) : Way Le (softOnly keeps) where
  le _ _ l := l
  trans _ _ _ a b := a.trans b
  keep i k h X Y hr := by
    unfold softOnly at h
    split at h
    · split at h
      · rename_i hs
        cases h
        unfold KeepRel at hr
        rw [hs] at hr
        simp only at hr
        rw [hr]
        exact .refl X
      · simp at h
    · simp at h

theorem resR_ok {X : Ctx} {L : Nat → Prop} (hX : RepH X) {t r : T} {v : Value} (h : (resR t).OutIn X.h L r) (hr : RepT X t v) : RepT (X.bare L) r v := by
  unfold resR at h
  split at h
  · rename_i ts
    rw [Rd.outIn_bind] at h
    obtain ⟨l, h1, h⟩ := h
    simp only [Rd.outIn_ret] at h
    subst h
    obtain ⟨l1, l2⟩ := resTs_ok hX h1
    cases hr with | tup _ vs hl hr =>
    refine .tup l vs (by omega) fun j t u a b => ?_
    have hjl : j < ts.length := by rw [← l1]; exact (List.getElem?_eq_some_iff.1 a).1
    exact l2 j _ t u (List.getElem?_eq_getElem hjl) a (hr j _ u (List.getElem?_eq_getElem hjl) b)
  · exact resT_ok hX h hr

section
variable {E : Env} {S : Calls'}

/-- the state that a call begins with -/
theorem rel_start {X : Ctx} {w : World} {args : List T} {vals : List Value} {k : Nat} {h : Heap} (hX : RepH X) (hw : X.Is w) (hg : GlobOK E X) (hr : RepTs X args vals) :
    Rel E X (St.get { tm := args ++ List.replicate (k - args.length) .any, h := h }) (args ++ List.replicate (k - args.length) T.any).length { tmps := vals.toArray ++ Array.replicate (k - vals.toArray.size) undef, defers := [] } w := by
  refine ⟨hw, hX, fun t => ?_, ?_, hg, rfl⟩
  · simp only [St.get, List.getD_eq_getElem?_getD]
    by_cases ht : t < args.length
    · have ht' : t < vals.length := by rw [hr.1]; exact ht
      rw [List.getElem?_append_left ht, List.getElem?_eq_getElem ht]
      rw [Array.getD_eq_getD_getElem?, Array.getElem?_append_left (by simpa using ht')]
      simp only [List.getElem?_toArray, List.getElem?_eq_getElem ht', Option.getD_some]
      exact hr.2 t _ _ (List.getElem?_eq_getElem ht) (List.getElem?_eq_getElem ht')
    · rw [List.getElem?_append_right (by omega), List.getElem?_replicate]
      split <;> exact .any _
  · simp [hr.1]

theorem body_sound {α : Type} (ok : SOK E S) (hmix : E.P.follows .mixedOrders = true) (hP : progOK E.P = true) {R : Ctx → Ctx → Prop} {keeps : Nat → Option Keep} (way : Way R keeps) {fuel : Nat} {f : FuncId} {args : List T} {h : Heap} {κ : T → Heap → Option α} {x : α}
    (hb : body E S keeps fuel f args h κ = some x) : Callable E.P f ∧ ∀ (X : Ctx) (w : World) (vals : List Value), X.h = h.get → X.Is w → RepH X → GlobOK E X → RepTs X args vals →
      ∀ (Φ : Ending → World → Prop), (∀ t h' v w' X', κ t h' = some x → R X X' → X'.h = h'.get → X'.Is w' → RepH X' → RepT X' t v → Φ (.returned v) w') → Calls E.P f vals.toArray w Φ := by
  unfold body at hb
  split at hb
  · simp at hb
  · rename_i fn hf
    split at hb
    · simp at hb
    · rename_i c hc
      obtain ⟨hcall, hcode⟩ := progOK_spec hP hf hc
      refine ⟨hcall, fun X w vals hXh hw hX hg hr Φ hΦ => ?_⟩
      refine calls_of_wp hf hc ?_
      simp only at hb
      have done : ∀ (s' : St) (a' : Act) (w' : World) (X' : Ctx) (n : Nat), (match Ex.results E fn s' with
          | some t => κ t s'.h
          | none => none) = some x → R X X' → X'.h = s'.h.get → Rel E X' s'.get n a' w' → a'.defers = [] ∧ ∃ v, (Go.results fn a'.tmps).run E.P w' = .ok v w' ∧ Φ (.returned v) w' := by
        intro s' a' w' X' n hk le h1 r
        split at hk
        · rename_i t ht
          obtain ⟨v, g1, g2⟩ := results_ok r h1 ht
          exact ⟨r.dfr, v, g1, hΦ t s'.h v w' X' hk le h1 r.heap r.rep g2⟩
        · simp at hk
      refine run_sound ok hmix way c hcode _ _ x hb X _ w _ _ rfl (rel_start hX hw hg hr) hXh ⟨?_, ?_, ?_⟩
      · intro s' a' w' X' hk le h1 _ r
        exact done s' a' w' X' _ hk le h1 r
      · intro s' a' w' X' hk le h1 _ r
        exact done s' a' w' X' _ hk le h1 r
      · intro id s' a' w' X' hk
        simp at hk

/-! ### one answer -/
theorem Rd.run_val {α β : Type} {h : Nat → Option Ent} (r : Rd α) : ∀ {acc : List Nat} {a : α} {l : List Nat} {κ : α → List Nat → Option β}, r.val h = some (a, l) → r.run h acc κ = κ a (l.reverse ++ acc) := by
  induction r with
  | ret a => intro acc b l κ hv; simp [Rd.val] at hv; obtain ⟨rfl, rfl⟩ := hv; rfl
  | fail => intro acc b l κ hv; simp [Rd.val] at hv
  | get i k ih =>
    intro acc b l κ hv
    simp only [Rd.val] at hv
    cases hk : (k (h i)).val h with
    | none => rw [hk] at hv; simp at hv
    | some p =>
      obtain ⟨a', l'⟩ := p
      rw [hk] at hv
      simp only [Option.some.injEq, Prod.mk.injEq] at hv
      obtain ⟨rfl, rfl⟩ := hv
      simp only [Rd.run]
      rw [ih (h i) hk]
      simp
  | br b p q ihp ihq =>
    intro acc c l κ hv
    cases b
    · exact ihq hv
    · exact ihp hv

theorem runOp_det {α : Type} (ok : SOK E S) {site i : Nat} {o : Oper} {s : St} {ms : List Mk} {κ : St → List Mk → Option α} {x : α} (h : runOp E S site o i s ms κ = some x) :
    ∃ s' ms', κ s' ms' = some x ∧ ∀ {β : Type} (κ' : St → List Mk → Option β), runOp E S site o i s ms κ' = κ' s' ms' := by
  unfold runOp at h
  obtain ⟨st, l, hv, h⟩ := Rd.run_eq _ _ _ _ h
  have e : ∀ {β : Type} (κ' : St → List Mk → Option β), runOp E S site o i s ms κ' = _ := fun κ' => Rd.run_val _ hv
  cases st with
  | eff ef => exact ⟨_, _, h, fun κ' => e κ'⟩
  | callp g args gone =>
    simp only at h
    obtain ⟨r, h, hr⟩ := ok.pdet _ _ _ _ h
    cases hf : isFlat r with
    | true => rw [hf] at h; exact ⟨_, _, h, fun κ' => by rw [e κ']; simp only; rw [hr, hf]⟩
    | false => rw [hf] at h; exact ⟨_, _, h, fun κ' => by rw [e κ']; simp only; rw [hr, hf]⟩
  | calls g args =>
    simp only at h
    obtain ⟨r, h', ws, h, hr⟩ := ok.hdet _ _ _ _ _ h
    exact ⟨_, _, h, fun κ' => by rw [e κ']; simp only; rw [hr]⟩

theorem runOps_det {α : Type} (ok : SOK E S) {base : Nat} {ops : Array Oper} {κ : St → List Mk → Option α} {x : α} : ∀ {l : List Oper} {i : Nat} {s : St} {ms : List Mk}, runOps E S base ops l i s ms κ = some x →
    ∃ s' ms', κ s' ms' = some x ∧ ∀ {β : Type} (κ' : St → List Mk → Option β), runOps E S base ops l i s ms κ' = κ' s' ms'
  | [], i, s, ms, h => ⟨s, ms, h, fun _ => rfl⟩
  | o :: rest, i, s, ms, h => by
    unfold runOps at h ⊢
    have go : ∀ {s : St}, runOp E S (base + i) o i s ms (fun s ms => runOps E S base ops rest (i + 1) s ms κ) = some x → ∃ s' ms', κ s' ms' = some x ∧ ∀ {β : Type} (κ' : St → List Mk → Option β), runOp E S (base + i) o i s ms (fun s ms => runOps E S base ops rest (i + 1) s ms κ') = κ' s' ms' := by
      intro s h
      obtain ⟨s1, m1, h, e1⟩ := runOp_det ok h
      obtain ⟨s2, m2, h, e2⟩ := runOps_det ok h
      exact ⟨s2, m2, h, fun κ' => by rw [e1, e2]⟩
    split at h
    · exact go h
    · rename_i j want hg
      split at h
      · rename_i d hd
        split at h
        · rename_i b hb
          cases want <;> cases b <;> simp only [br] at h ⊢ <;> first | exact go h | exact runOps_det ok h
        · exact runOps_det ok h
        · simp at h
      · simp at h

/-- where a code ends -/
inductive Out' where
  | norm (s : St)
  | ret (s : St)
  | exit (i : Nat) (s : St)

def Konts.to {α : Type} (K : Konts α) : Out' → Option α
  | .norm s => K.norm s
  | .ret s => K.ret s
  | .exit i s => K.exit i s

theorem run_det (ok : SOK E S) {keeps : Nat → Option Keep} {fuel f : Nat} : ∀ (c : Code) {α : Type} (s : St) (K : Konts α) (x : α), run E S keeps fuel f c s K = some x →
    ∃ o : Out', K.to o = some x ∧ ∀ {β : Type} (K' : Konts β), run E S keeps fuel f c s K' = K'.to o := by
  intro c
  induction c with
  | skip => intro α s K x h; exact ⟨.norm s, h, fun _ => rfl⟩
  | label l => intro α s K x h; exact ⟨.norm s, h, fun _ => rfl⟩
  | exit id => intro α s K x h; exact ⟨.exit id s, h, fun _ => rfl⟩
  | ret => intro α s K x h; exact ⟨.ret s, h, fun _ => rfl⟩
  | region id ops draw =>
    intro α s K x h
    unfold run at h
    obtain ⟨s', ms', h, e⟩ := runOps_det ok h
    cases draw with
    | false => exact ⟨.norm s', h, fun K' => by unfold run; rw [e]; rfl⟩
    | true =>
      simp only at h
      cases hp : okPairs (Region.before ops).toList ms' with
      | true => rw [hp] at h; exact ⟨.norm s', h, fun K' => by unfold run; rw [e]; simp only; rw [hp]; rfl⟩
      | false => rw [hp] at h; simp at h
  | seq a b iha ihb =>
    intro α s K x h
    unfold run at h
    obtain ⟨o, h, e⟩ := iha s _ x h
    cases o with
    | norm s' =>
      obtain ⟨o2, h, e2⟩ := ihb s' K x h
      exact ⟨o2, h, fun K' => by rw [run, e]; exact e2 K'⟩
    | ret s' => exact ⟨.ret s', h, fun K' => by rw [run, e]; rfl⟩
    | exit i s' => exact ⟨.exit i s', h, fun K' => by rw [run, e]; rfl⟩
  | cond c a b iha ihb =>
    intro α s K x h
    unfold run at h
    split at h
    · rename_i t ht
      cases t with
      | true =>
        obtain ⟨o, h, e⟩ := iha s K x h
        exact ⟨o, h, fun K' => by rw [run, ht]; exact e K'⟩
      | false =>
        obtain ⟨o, h, e⟩ := ihb s K x h
        exact ⟨o, h, fun K' => by rw [run, ht]; exact e K'⟩
    · simp at h
  | block id c ih =>
    intro α s K x h
    unfold run at h
    obtain ⟨o, h, e⟩ := ih s _ x h
    cases o with
    | norm s' => exact ⟨.norm s', h, fun K' => by rw [run, e]; rfl⟩
    | ret s' => exact ⟨.ret s', h, fun K' => by rw [run, e]; rfl⟩
    | exit i s' =>
      simp only [Konts.to] at h
      cases hb : Nat.beq i id with
      | true => rw [hb] at h; exact ⟨.norm s', h, fun K' => by rw [run, e]; simp only [Konts.to]; rw [hb]⟩
      | false => rw [hb] at h; exact ⟨.exit i s', h, fun K' => by rw [run, e]; simp only [Konts.to]; rw [hb]⟩
  | loop c ih =>
    intro α s K x h
    have key : ∀ (g : St → St) (m : Nat) (s : St), iter (fun s next => run E S keeps fuel f c s { K with norm := next }) g m s = some x →
        ∃ o : Out', K.to o = some x ∧ ∀ {β : Type} (K' : Konts β), iter (fun s next => run E S keeps fuel f c s { K' with norm := next }) g m s = K'.to o := by
      intro g m
      induction m with
      | zero => intro s h; simp [iter] at h
      | succ m ihm =>
        intro s h
        simp only [iter] at h
        obtain ⟨o, h, e⟩ := ih s _ x h
        cases o with
        | norm s' =>
          obtain ⟨o2, h, e2⟩ := ihm (g s') h
          exact ⟨o2, h, fun K' => by simp only [iter]; rw [e]; exact e2 K'⟩
        | ret s' => exact ⟨.ret s', h, fun K' => by simp only [iter]; rw [e]; rfl⟩
        | exit i s' => exact ⟨.exit i s', h, fun K' => by simp only [iter]; rw [e]; rfl⟩
    unfold run at h ⊢
    cases hk : (firstRegion c).bind keeps with
    | some k => rw [hk] at h; exact key (keepSt k) fuel (keepSt k s) h
    | none => rw [hk] at h; exact key (fun s => s) fuel s h
  | _ => intro α s K x h; simp [run] at h

theorem body_det {α : Type} (ok : SOK E S) {keeps : Nat → Option Keep} {fuel : Nat} {f : FuncId} {args : List T} {h : Heap} {κ : T → Heap → Option α} {x : α} (hb : body E S keeps fuel f args h κ = some x) :
    ∃ t h', κ t h' = some x ∧ ∀ {β : Type} (κ' : T → Heap → Option β), body E S keeps fuel f args h κ' = κ' t h' := by
  unfold body at hb ⊢
  cases hf : E.P.funcs[f]? with
  | none => rw [hf] at hb; simp at hb
  | some fn =>
    rw [hf] at hb
    simp only at hb ⊢
    cases hc : fn.body with
    | none => rw [hc] at hb; simp at hb
    | some c =>
      rw [hc] at hb
      simp only at hb ⊢
      obtain ⟨o, hb, e⟩ := run_det ok c _ _ x hb
      have fin : ∀ {s : St}, (match Ex.results E fn s with
          | some t => κ t s.h
          | none => none) = some x → ∃ t, κ t s.h = some x ∧ Ex.results E fn s = some t := by
        intro s h
        cases ht : Ex.results E fn s with
        | none => rw [ht] at h; simp at h
        | some t => rw [ht] at h; exact ⟨t, h, rfl⟩
      cases o with
      | norm s =>
        obtain ⟨t, h1, h2⟩ := fin hb
        exact ⟨t, s.h, h1, fun κ' => by rw [e]; simp only [Konts.to]; rw [h2]⟩
      | ret s =>
        obtain ⟨t, h1, h2⟩ := fin hb
        exact ⟨t, s.h, h1, fun κ' => by rw [e]; simp only [Konts.to]; rw [h2]⟩
      | exit i s => simp [Konts.to] at hb

theorem pure_det {α : Type} (ok : SOK E S) {keeps : Nat → Option Keep} {fuel : Nat} {f : FuncId} {args : List T} {κ : T → Option α} {x : α} (hb : pureBody E S keeps fuel f args κ = some x) :
    ∃ r, κ r = some x ∧ ∀ {β : Type} (κ' : T → Option β), pureBody E S keeps fuel f args κ' = κ' r := by
  unfold pureBody at hb ⊢
  obtain ⟨t, h', hk, e⟩ := body_det ok hb
  obtain ⟨r, l, hv, hk⟩ := Rd.run_eq _ _ _ _ hk
  exact ⟨r, hk, fun κ' => by rw [e]; exact Rd.run_val _ hv⟩

theorem heap_det {α : Type} (ok : SOK E S) {keeps : Nat → Option Keep} {fuel : Nat} {f : FuncId} {args : List T} {hp : Heap} {κ : T → Heap → List Nat → Option α} {x : α} (hb : heapBody E S keeps fuel f args hp κ = some x) :
    ∃ r h' ws, κ r h' ws = some x ∧ ∀ {β : Type} (κ' : T → Heap → List Nat → Option β), heapBody E S keeps fuel f args hp κ' = κ' r h' ws := by
  unfold heapBody at hb ⊢
  obtain ⟨t, h', hk, e⟩ := body_det ok hb
  exact ⟨t, h', _, hk, fun κ' => e _⟩

theorem pure_sound (ok : SOK E S) (hmix : E.P.follows .mixedOrders = true) (hP : progOK E.P = true) {keeps : Nat → Option Keep} {fuel : Nat} {f : FuncId} {args : List T} {r : T} (hb : pureBody E S keeps fuel f args some = some r) :
    Callable E.P f ∧ ∀ (X : Ctx) (w : World) (vals : List Value), X.h = (fun _ => none) → (∀ b, X.F b → b < X.H.size) → X.Is w → GlobOK E X → RepTs X args vals →
    Calls E.P f vals.toArray w fun e w' => ∃ v, e = .returned v ∧ sysOf w' = sysOf w ∧ w.heap.size ≤ w'.heap.size ∧ (∀ b, b < w.heap.size → w'.heap[b]? = w.heap[b]?) ∧ RepT { X with H := w'.heap } r v := by
  unfold pureBody at hb
  obtain ⟨hc, h⟩ := body_sound ok hmix hP (weak_way keeps) hb
  refine ⟨hc, fun X w vals hXh hF hw hg hr => ?_⟩
  have hX : RepH X := ⟨fun id en h => by rw [hXh] at h; simp at h, fun id en id' en' h => by rw [hXh] at h; simp at h, fun id en h => by rw [hXh] at h; simp at h, hF⟩
  have hZ : ∀ b, X.N b := fun b id en h => by rw [hXh] at h; simp at h
  refine h X w vals (by rw [hXh]; rfl) hw hX hg hr _ fun t h' v w' X' hk le h1 h2 h3 h4 => ?_
  obtain ⟨t', l, hv, ht⟩ := Rd.run_eq _ _ _ _ hk
  simp only [Option.some.injEq] at ht
  subst ht
  rw [← h1] at hv
  have hres := resR_ok (L := (· ∈ l)) h3 ⟨l, hv, fun i hi => hi⟩ h4
  have k : Kept (X'.bare (· ∈ l)).H ({ X with H := w'.heap } : Ctx).H (X'.bare (· ∈ l)).Z ({ X with H := w'.heap } : Ctx).Z := by
    refine ⟨by simp [Ctx.bare, h2.1], fun b _ hz => ⟨by simp [Ctx.bare, h2.1], fun id en h => by simp [hXh] at h, ?_⟩⟩
    have := (Classical.not_not.1 hz.2).1
    rw [le.foreign] at this
    exact this
  refine ⟨v, rfl, by rw [h2.2, le.sys, hw.2], ?_, fun b hb => ?_, hres.data rfl k⟩
  · rw [hw.1, h2.1]; exact le.size
  · rw [hw.1, h2.1]; exact (le.keep b (by rw [← hw.1]; exact hb) (hZ b)).1

theorem Heap.get_none {h : Heap} {id : Nat} (hn : id ∉ h.map (·.1)) : h.get id = none := by
  cases hg : h.get id with
  | none => rfl
  | some e => exact absurd (Heap.get_mem hg) hn

theorem heap_sound (ok : SOK E S) (hmix : E.P.follows .mixedOrders = true) (hP : progOK E.P = true) {keeps : Nat → Option Keep} {fuel : Nat} {f : FuncId} {args : List T} {hp : Heap} {r : T} {h' : Heap} {ws : List Nat}
    (hb : heapBody E S keeps fuel f args hp (fun r h ws => some (r, h, ws)) = some (r, h', ws)) :
    Callable E.P f ∧ (∀ id, id ∉ ws → h'.get id = hp.get id) ∧ ∀ (X : Ctx) (w : World) (vals : List Value), X.h = hp.get → X.Is w → RepH X → GlobOK E X → RepTs X args vals →
    Calls E.P f vals.toArray w fun e w' => ∃ v X', e = .returned v ∧ X'.Is w' ∧ X'.h = h'.get ∧ Le X X' ∧ RepH X' ∧ RepT X' r v := by
  unfold heapBody at hb
  obtain ⟨hc, h⟩ := body_sound ok hmix hP (le_way keeps) hb
  obtain ⟨t, h1, hk, _⟩ := body_det ok hb
  simp only [Option.some.injEq, Prod.mk.injEq] at hk
  obtain ⟨rfl, rfl, rfl⟩ := hk
  refine ⟨hc, fun id hid => ?_, fun X w vals hXh hw hX hg hr => ?_⟩
  · simp only [List.mem_append, not_or] at hid
    rw [Heap.get_none hid.1, Heap.get_none hid.2]
  · refine h X w vals hXh hw hX hg hr _ fun t h2 v w' X' hk le h1 h2' h3 h4 => ?_
    simp only [Option.some.injEq, Prod.mk.injEq] at hk
    obtain ⟨rfl, rfl, _⟩ := hk
    exact ⟨v, X', rfl, h2', h1, le, h3, h4⟩

/-! ### calls, by depth -/
/-- the answers of all calls to a depth -/
def calls (E : Env) (keeps : FuncId → Nat → Option Keep) (fuel : Nat) : Nat → Calls'
  | 0 => { pure := fun _ _ _ => none, heap := fun _ _ _ _ => none }
  | n + 1 => { pure := fun f args κ => pureBody E (calls E keeps fuel n) (keeps f) fuel f args κ, heap := fun f args hp κ => heapBody E (calls E keeps fuel n) (keeps f) fuel f args hp κ }

theorem SOK.next (ok : SOK E S) (hmix : E.P.follows .mixedOrders = true) (hP : progOK E.P = true) (keeps : FuncId → Nat → Option Keep) (fuel : Nat) :
    SOK E { pure := fun f args κ => pureBody E S (keeps f) fuel f args κ, heap := fun f args hp κ => heapBody E S (keeps f) fuel f args hp κ } where
  pdet _ _ _ _ h := pure_det ok h
  hdet _ _ _ _ _ h := heap_det ok h
  pure _ _ _ h := pure_sound ok hmix hP h
  heap _ _ _ _ _ _ h := heap_sound ok hmix hP h

theorem calls_ok (hmix : E.P.follows .mixedOrders = true) (hP : progOK E.P = true) (keeps : FuncId → Nat → Option Keep) (fuel : Nat) : ∀ n, SOK E (calls E keeps fuel n)
  | 0 => ⟨fun _ _ _ _ h => by simp [calls] at h, fun _ _ _ _ _ h => by simp [calls] at h, fun _ _ _ h => by simp [calls] at h, fun _ _ _ _ _ _ h => by simp [calls] at h⟩
  | n + 1 => (calls_ok hmix hP keeps fuel n).next hmix hP keeps fuel
end
end Go.Ex
