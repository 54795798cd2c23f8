/- Exec, part V: the code of a function. -/
import Derived.Test.YtfnpmhhlhlbclaaDoorExU
namespace Go.Ex

/-- the drawn regions of a code are such that order does not matter where it is not fixed -/
def codeOK : Code → Bool
  | .region _ ops draw => match draw with
    | true => tempsOK ops && edgesOK ops
    | false => true
  | .seq a b => codeOK a && codeOK b
  | .cond _ a b => codeOK a && codeOK b
  | .block _ c => codeOK c
  | .loop c => codeOK c
  | _ => true

theorem wp_loop_fuel {P : Program} {c : Code} {Q : Exit → Act → World → Prop} (I : Nat → Act → World → Prop) (h0 : ∀ a w, ¬ I 0 a w) (round : ∀ n a w, I (n + 1) a w → c.wp P (Exit.then (I n) Q) a w) {n : Nat} {a : Act} {w : World} (h : I n a w) :
    (Code.loop c).wp P Q a w := by
  intro b k cs
  have key : ∀ n a w, I n a w → ∃ e a' w', Q e a' w' ∧ Arrives P (lone (b.at a (.code c :: .inLoop c :: k)) cs w) b k cs e a' w' := by
    intro n
    induction n with
    | zero => exact fun a w h => absurd h (h0 a w)
    | succ n ih =>
      intro a w hI
      obtain ⟨e, a₁, w₁, hq, harr⟩ := round n a w hI b (.inLoop c :: k) cs
      cases e with
      | normal =>
        obtain ⟨e₂, a₂, w₂, hq₂, harr₂⟩ := ih a₁ w₁ hq
        exact ⟨e₂, a₂, w₂, hq₂, .of_steps (Steps.trans harr (.one step_inLoop)) harr₂⟩
      | exit id => exact ⟨_, a₁, w₁, hq, .pass (x := .inLoop c) rfl (fun _ _ => .inl (by simp)) harr⟩
      | goto l => exact ⟨_, a₁, w₁, hq, .pass (x := .inLoop c) rfl (fun _ _ => .inl (by simp)) harr⟩
      | ret => exact ⟨_, a₁, w₁, hq, .pass (x := .inLoop c) rfl (fun _ _ => .inl (by simp)) harr⟩
      | panic ch => exact ⟨_, a₁, w₁, hq, .pass (x := .inLoop c) rfl (fun _ _ => .inl (by simp)) harr⟩
      | outgrown => exact ⟨_, a₁, w₁, hq, .pass (x := .inLoop c) rfl (fun _ _ => .inl (by simp)) harr⟩
  obtain ⟨e, a', w', hq, harr⟩ := key n a w h
  exact ⟨e, a', w', hq, .of_steps (.one step_loop) harr⟩

/-- how one memory may lie behind another -/
structure Way (R : Ctx → Ctx → Prop) (keeps : Nat → Option Keep) : Prop where
  le : ∀ X Y, Le X Y → R X Y
  trans : ∀ X Y Z, R X Y → R Y Z → R X Z
  keep : ∀ i k, keeps i = some k → ∀ X Y, KeepRel k X Y → R X Y

/-- what follows from a continuation's answer -/
def After {α : Type} (E : Env) (R : Ctx → Ctx → Prop) (X : Ctx) (n : Nat) (κ : St → Option α) (x : α) (q : Act → World → Prop) : Prop :=
  ∀ s' a' w' X', κ s' = some x → R X X' → X'.h = s'.h.get → s'.tm.length = n → Rel E X' s'.get n a' w' → q a' w'

structure Goes {α : Type} (E : Env) (R : Ctx → Ctx → Prop) (X : Ctx) (n : Nat) (K : Konts α) (x : α) (Q : Exit → Act → World → Prop) : Prop where
  norm : After E R X n K.norm x (Q .normal)
  ret : After E R X n K.ret x (Q .ret)
  exit : ∀ id, After E R X n (K.exit id) x (Q (.exit id))

theorem After.mono {α : Type} {E : Env} {R : Ctx → Ctx → Prop} {keeps : Nat → Option Keep} (way : Way R keeps) {X Y : Ctx} {n : Nat} {κ : St → Option α} {x : α} {q : Act → World → Prop} (h : After E R X n κ x q) (l : R X Y) : After E R Y n κ x q :=
  fun s' a' w' X' h1 h2 => h s' a' w' X' h1 (way.trans _ _ _ l h2)

theorem Goes.mono {α : Type} {E : Env} {R : Ctx → Ctx → Prop} {keeps : Nat → Option Keep} (way : Way R keeps) {X Y : Ctx} {n : Nat} {K : Konts α} {x : α} {Q : Exit → Act → World → Prop} (h : Goes E R X n K x Q) (l : R X Y) : Goes E R Y n K x Q :=
  ⟨h.norm.mono way l, h.ret.mono way l, fun id => (h.exit id).mono way l⟩

section
variable {α : Type} {E : Env} {S : Calls'} {R : Ctx → Ctx → Prop} {keeps : Nat → Option Keep}

theorem run_sound (ok : SOK E S) (hmix : E.P.follows .mixedOrders = true) (way : Way R keeps) {fuel f : Nat} : ∀ (c : Code), codeOK c = true → ∀ (s : St) (K : Konts α) (x : α), run E S keeps fuel f c s K = some x →
    ∀ (X : Ctx) (a : Act) (w : World) (Q : Exit → Act → World → Prop) (n : Nat), n = s.tm.length → Rel E X s.get n a w → X.h = s.h.get → Goes E R X n K x Q → c.wp E.P Q a w := by
  intro c
  induction c with
  | skip =>
    intro _ s K x h X a w Q n hn r hXh g
    exact wp_skip (g.norm s a w X h (way.le _ _ (.refl X)) hXh hn.symm r)
  | label l =>
    intro _ s K x h X a w Q n hn r hXh g
    exact wp_label (g.norm s a w X h (way.le _ _ (.refl X)) hXh hn.symm r)
  | exit id =>
    intro _ s K x h X a w Q n hn r hXh g
    exact wp_exit (g.exit id s a w X h (way.le _ _ (.refl X)) hXh hn.symm r)
  | ret =>
    intro _ s K x h X a w Q n hn r hXh g
    exact wp_ret (g.ret s a w X h (way.le _ _ (.refl X)) hXh hn.symm r)
  | region id ops draw =>
    intro hc s K x h X a w Q n hn r hXh g
    subst hn
    unfold run at h
    cases draw with
    | false =>
      exact region_seq ok h r hXh fun s' ms' a' w' X' hk le h1 h2 h3 => by
        rw [h2] at h3
        exact g.norm s' a' w' X' hk (way.le _ _ le) h1 h2 h3
    | true =>
      simp only [codeOK, Bool.and_eq_true] at hc
      exact region_any ok hmix hc.1 hc.2 h r hXh fun s' a' w' X' hk le h1 h2 h3 => by
        rw [h2] at h3
        exact g.norm s' a' w' X' hk (way.le _ _ le) h1 h2 h3
  | seq c d ihc ihd =>
    intro hc s K x h X a w Q n hn r hXh g
    simp only [codeOK, Bool.and_eq_true] at hc
    unfold run at h
    refine wp_seq (ihc hc.1 s _ x h X a w _ n hn r hXh ⟨fun s' a' w' X' hk le h1 h2 h3 => ?_, g.ret, g.exit⟩)
    exact ihd hc.2 s' K x hk X' a' w' Q n h2.symm h3 h1 (g.mono way le)
  | cond o c d ihc ihd =>
    intro hc s K x h X a w Q n hn r hXh g
    simp only [codeOK, Bool.and_eq_true] at hc
    unfold run at h
    split at h
    · rename_i t ht
      have hv := toValue_eq (x := .bool t) (by rw [ht]; rfl) (r.ev o)
      refine wp_cond hv ?_
      cases t with
      | true => exact ihc hc.1 s K x h X a w Q n hn r hXh g
      | false => exact ihd hc.2 s K x h X a w Q n hn r hXh g
    · simp at h
  | block id c ih =>
    intro hc s K x h X a w Q n hn r hXh g
    unfold run at h
    refine wp_block (ih hc s _ x h X a w _ n hn r hXh ⟨g.norm, g.ret, fun i s' a' w' X' hk le h1 h2 h3 => ?_⟩)
    simp only at hk
    cases hb : Nat.beq i id with
    | true =>
      rw [hb] at hk
      simp only [Exit.inBlock, Nat.eq_of_beq_eq_true hb, if_true]
      exact g.norm s' a' w' X' hk le h1 h2 h3
    | false =>
      rw [hb] at hk
      have hne : i ≠ id := fun e => by subst e; simp at hb
      simp only [Exit.inBlock, hne, if_false]
      exact g.exit i s' a' w' X' hk le h1 h2 h3
  | loop c ih =>
    intro hc s K x h X a w Q n hn r hXh g
    unfold run at h
    split at h
    · rename_i k hk
      have hkeep : ∀ X Y, KeepRel k X Y → R X Y := by
        cases hf : firstRegion c with
        | none => rw [hf] at hk; simp at hk
        | some i => rw [hf] at hk; exact way.keep i k hk
      obtain ⟨Y0, z1, z2, z3, z4⟩ := keepSt_ok k (by rw [← hn]; exact r) hXh
      refine wp_loop_fuel (fun m a w => ∃ s X', iter (fun s next => run E S keeps fuel f c s { K with norm := next }) (keepSt k) m s = some x ∧ R X X' ∧ X'.h = s.h.get ∧ s.tm.length = n ∧ Rel E X' s.get n a w) (fun a w hI => ?_) (fun m a w hI => ?_)
        ⟨keepSt k s, Y0, h, hkeep _ _ z1, z2, by rw [z3, hn], by rw [hn]; exact z4⟩
      · obtain ⟨s, X', h, _⟩ := hI
        simp [iter] at h
      · obtain ⟨s, X', h, le, h1, h2, h3⟩ := hI
        simp only [iter] at h
        refine ih hc s _ x h X' a w _ n h2.symm h3 h1 ⟨fun s' a' w' X'' hk' le' g1 g2 g3 => ?_, ?_, ?_⟩
        · obtain ⟨Y, y1, y2, y3, y4⟩ := keepSt_ok k (by rw [g2]; exact g3) g1
          exact ⟨keepSt k s', Y, hk', way.trans _ _ _ (way.trans _ _ _ le le') (hkeep _ _ y1), y2, by rw [y3, g2], by rw [← g2]; exact y4⟩
        · exact (g.ret.mono way le)
        · exact fun id => ((g.exit id).mono way le)
    · refine wp_loop_fuel (fun m a w => ∃ s X', iter (fun s next => run E S keeps fuel f c s { K with norm := next }) (fun s => s) m s = some x ∧ R X X' ∧ X'.h = s.h.get ∧ s.tm.length = n ∧ Rel E X' s.get n a w) (fun a w hI => ?_) (fun m a w hI => ?_)
        ⟨s, X, h, way.le _ _ (.refl X), hXh, hn.symm, r⟩
      · obtain ⟨s, X', h, _⟩ := hI
        simp [iter] at h
      · obtain ⟨s, X', h, le, h1, h2, h3⟩ := hI
        simp only [iter] at h
        refine ih hc s _ x h X' a w _ n h2.symm h3 h1 ⟨fun s' a' w' X'' hk' le' g1 g2 g3 => ?_, ?_, ?_⟩
        · exact ⟨s', X'', hk', way.trans _ _ _ le le', g1, g2, g3⟩
        · exact (g.ret.mono way le)
        · exact fun id => ((g.exit id).mono way le)
  | _ =>
    intro _ s K x h
    simp [run] at h
end

/-! ### results, bodies -/
theorem loadAt_asAddr {P : Program} {w : World} {t : TypeId} {va v : Value} (h : (Instr.loadAt t va).run P w = .ok v w) : (do loadVar t (← asAddr va) : Sem Value).run P w = .ok v w := by
  cases va with
  | pointer p =>
    cases p with
    | some a => simpa [Instr.loadAt, Instr.sureAddr, asAddr] using h
    | none => simp [Instr.loadAt, Instr.sureAddr, stuck, Sem.run] at h
  | _ => simp [Instr.loadAt, Instr.sureAddr, stuck, Sem.run] at h

def resultSem (tmps : Array Value) : ResultVar → Sem Value
  | .tmp t => pure (tmps.getD t undef)
  | .cell a t => do loadVar t (← asAddr (tmps.getD a undef))

theorem resultV_ok {E : Env} {X : Ctx} {s : St} {a : Act} {w : World} {n : Nat} (r : Rel E X s.get n a w) (hXh : X.h = s.h.get) {rv : ResultVar} {t : T} (h : resultV E s rv = some t) : ∃ v, (resultSem a.tmps rv).run E.P w = .ok v w ∧ RepT X t v := by
  cases rv with
  | tmp d =>
    simp only [resultV, Option.some.injEq] at h
    subst h
    exact ⟨_, rfl, r.tmp d⟩
  | cell d ty =>
    simp only [resultV] at h
    split at h
    · rename_i agg size ha hs
      obtain ⟨t', l, hv, ht⟩ := Rd.run_eq _ _ _ _ h
      simp only [Option.some.injEq] at ht
      subst ht
      rw [← hXh] at hv
      obtain ⟨v, h1, h2⟩ := loadR_sound r.rep r.heap.1 ha hs (r.tmp d) ⟨l, hv⟩
      exact ⟨v, loadAt_asAddr h1, h2⟩
    · simp at h

theorem resultVs_ok {E : Env} {X : Ctx} {s : St} {a : Act} {w : World} {n : Nat} (r : Rel E X s.get n a w) (hXh : X.h = s.h.get) : ∀ {rs : List ResultVar} {ts : List T}, resultVs E s rs = some ts →
    ∃ vs : List Value, (rs.mapM (resultSem a.tmps)).run E.P w = .ok vs w ∧ RepTs X ts vs
  | [], ts, h => by
    simp only [resultVs, Option.some.injEq] at h
    subst h
    exact ⟨[], by simp, rfl, by simp⟩
  | rv :: rs, ts, h => by
    simp only [resultVs] at h
    split at h
    · rename_i t l h1 h2
      simp only [Option.some.injEq] at h
      subst h
      obtain ⟨v, g1, g2⟩ := resultV_ok r hXh h1
      obtain ⟨vs, g3, g4, g5⟩ := resultVs_ok r hXh h2
      refine ⟨v :: vs, ?_, by simp [g4], fun j t' u a b => ?_⟩
      · rw [List.mapM_cons]
        simp only [Sem.run_bind, g1, Result.andThen, Sem.run_pure, g3]
      · cases j with
        | zero => simp at a b; subst a; subst b; exact g2
        | succ j => exact g5 j t' u (by simpa using a) (by simpa using b)
    · simp at h

theorem results_ok {E : Env} {X : Ctx} {s : St} {a : Act} {w : World} {n : Nat} (r : Rel E X s.get n a w) (hXh : X.h = s.h.get) {fn : Func} {t : T} (h : Ex.results E fn s = some t) : ∃ v, (Go.results fn a.tmps).run E.P w = .ok v w ∧ RepT X t v := by
  unfold Ex.results at h
  have hrun : ∀ {vs : List Value}, (fn.results.toList.mapM (resultSem a.tmps)).run E.P w = .ok vs w → (Go.results fn a.tmps).run E.P w = .ok (if h : vs.toArray.size = 1 then vs.toArray[0] else .tuple vs.toArray) w := by
    intro vs hvs
    have e : Go.results fn a.tmps = (do let vs ← fn.results.mapM (resultSem a.tmps); pure (if h : vs.size = 1 then vs[0] else .tuple vs)) := by
      unfold Go.results
      congr 2
    have : (fn.results.mapM (resultSem a.tmps)).run E.P w = .ok vs.toArray w := by
      rw [Array.mapM_eq_mapM_toList]
      simp only [Sem.run_map, hvs, Result.andThen]
    rw [e, Sem.run_bind, this]
    rfl
  split at h
  · rename_i t' hts
    simp only [Option.some.injEq] at h
    subst h
    obtain ⟨vs, h1, h2, h3⟩ := resultVs_ok r hXh hts
    match vs, h2 with
    | [v], _ => exact ⟨v, by rw [hrun h1]; rfl, h3 0 _ v rfl rfl⟩
  · rename_i ts hne hts
    simp only [Option.some.injEq] at h
    subst h
    obtain ⟨vs, h1, h2, h3⟩ := resultVs_ok r hXh hts
    refine ⟨.tuple vs.toArray, ?_, .tup ts vs h2 h3⟩
    rw [hrun h1]
    have : ¬ vs.toArray.size = 1 := by
      intro e
      match ts, h2 with
      | [t], _ => exact hne t rfl
      | [], h2 => simp at e; rw [e] at h2; simp at h2
      | _ :: _ :: _, h2 => simp at e; rw [e] at h2; simp at h2
    rw [dif_neg this]
  · simp at h
end Go.Ex
