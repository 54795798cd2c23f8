/- Exec, part N: one operation is what the model does. -/
import Derived.Test.YtfnpmhhlhlbclaaDoorExM
namespace Go.Ex

section
variable {P : Program} {X : Ctx} {w : World}

/-- a callee's memory: it owns nothing, and the caller's own blocks outside of a set are foreign -/
def Ctx.bare (X : Ctx) (L : Nat → Prop) : Ctx := { X with h := fun _ => none, F := fun b => ¬ X.Zl L b }

variable {L : Nat → Prop}

/-- what one operation comes to: an effect, or a call -/
inductive StepOK (P : Program) (X : Ctx) (L : Nat → Prop) (w : World) (s : Sem Next) : Step → Prop where
  | eff (e : Eff) (h : OpOK P X w s e) : StepOK P X L w s (.eff e)
  | callp (g : FuncId) (args : List T) (gone : List (Nat × Ent)) (vals : List Value) (h1 : s.run P w = (callFunc g vals.toArray).run P w) (hl : vals.length = args.length)
      (hr : ∀ (j : Nat) (t : T) (v : Value), args[j]? = some t → vals[j]? = some v → RepT (X.bare L) t v) : StepOK P X L w s (.callp g args gone)
  | calls (g : FuncId) (args : List T) (vals : List Value) (h1 : s.run P w = (callFunc g vals.toArray).run P w) (hl : vals.length = args.length)
      (hr : ∀ (j : Nat) (t : T) (v : Value), args[j]? = some t → vals[j]? = some v → RepT X t v) : StepOK P X L w s (.calls g args)

theorem StepOK.of {s : Sem Next} {st : Step} (h : ∃ e, st = .eff e ∧ OpOK P X w s e) : StepOK P X L w s st := by
  obtain ⟨e, rfl, h⟩ := h
  exact .eff e h

theorem StepOK.congr {s s' : Sem Next} {st : Step} (hs : s.run P w = s'.run P w) (h : StepOK P X L w s st) : StepOK P X L w s' st := by
  cases h with
  | eff e h =>
    obtain ⟨nx, v, w', X', h1, h2⟩ := h
    exact .eff e ⟨nx, v, w', X', by rw [← hs]; exact h1, h2⟩
  | callp g args gone vals h1 hl hr => exact .callp g args gone vals (by rw [← hs]; exact h1) hl hr
  | calls g args vals h1 hl hr => exact .calls g args vals (by rw [← hs]; exact h1) hl hr

theorem bareD {d : D} {v : Value} (h : RepD X.H (X.Zl L) d v) : RepD (X.bare L).H (X.bare L).Z d v :=
  h.mono ⟨Nat.le_refl _, fun _ _ hz => ⟨rfl, fun _ _ h => by simp [Ctx.bare] at h, fun hn => hn hz⟩⟩

theorem resT_ok (hX : RepH X) {t r : T} {v : Value} (h : (resT t).OutIn X.h L r) (hr : RepT X t v) : RepT (X.bare L) r v := by
  unfold resT at h
  split at h
  · rename_i ds
    simp only [Rd.outIn_ret] at h
    subst h
    cases hr with | aggd _ vs hl hr =>
    exact .aggd _ vs hl fun j d v a b => bareD (hr j d v a b).loose
  · rename_i c
    rw [Rd.outIn_bind] at h
    obtain ⟨d, h1, h⟩ := h
    simp only [Rd.outIn_ret] at h
    subst h
    cases hr with | one _ _ hr =>
    exact .one _ _ (.d _ _ (bareD (resC_ok hX _ h1 hr)))
  · rename_i cs
    rw [Rd.outIn_bind] at h
    obtain ⟨l, h1, h⟩ := h
    simp only [Rd.outIn_ret] at h
    subst h
    obtain ⟨l1, l2⟩ := resCs_ok hX _ h1
    cases hr with | agg _ vs hl hr =>
    refine .agg _ vs (by simp; omega) fun j c v a b => ?_
    rw [List.getElem?_map] at a
    cases hj : l[j]? with
    | none => rw [hj] at a; simp at a
    | some d =>
      rw [hj] at a
      simp at a
      subst a
      have hjl : j < cs.length := by rw [← l1]; exact (List.getElem?_eq_some_iff.1 hj).1
      exact .d _ _ (bareD (l2 j _ d v (List.getElem?_eq_getElem hjl) hj (hr j _ v (List.getElem?_eq_getElem hjl) b)))
  · simp at h

theorem resTs_ok (hX : RepH X) : ∀ {ts rs : List T}, (resTs ts).OutIn X.h L rs → rs.length = ts.length ∧
    ∀ (j : Nat) (t r : T) (v : Value), ts[j]? = some t → rs[j]? = some r → RepT X t v → RepT (X.bare L) r v
  | [], rs, h => by
    have : rs = [] := by simpa [resTs, eq_comm] using h
    subst this
    exact ⟨rfl, by simp⟩
  | t :: ts, rs, h => by
    simp only [resTs] at h
    rw [Rd.outIn_bind] at h
    obtain ⟨x, h1, h⟩ := h
    rw [Rd.outIn_bind] at h
    obtain ⟨l, h2, h⟩ := h
    simp only [Rd.outIn_ret] at h
    subst h
    obtain ⟨l1, l2⟩ := resTs_ok hX h2
    refine ⟨by simp [l1], fun j t' r v a b hr => ?_⟩
    cases j with
    | zero => simp at a b; subst a; subst b; exact resT_ok hX h1 hr
    | succ j => exact l2 j t' r v (by simpa using a) (by simpa using b) hr

/-- lists of temporaries stand for lists of values -/
def RepTs (X : Ctx) (ts : List T) (vs : List Value) : Prop := vs.length = ts.length ∧ ∀ (j : Nat) (t : T) (v : Value), ts[j]? = some t → vs[j]? = some v → RepT X t v

theorem RepTs.map {α : Type} {f : α → T} {g : α → Value} (h : ∀ x, RepT X (f x) (g x)) (l : List α) : RepTs X (l.map f) (l.map g) := by
  refine ⟨by simp, fun j t v a b => ?_⟩
  rw [List.getElem?_map] at a b
  cases hj : l[j]? with
  | none => rw [hj] at a; simp at a
  | some x =>
    rw [hj] at a b
    simp at a b
    subst a; subst b
    exact h x

theorem RepTs.append {ts us : List T} {vs ws : List Value} (h : RepTs X ts vs) (h' : RepTs X us ws) : RepTs X (ts ++ us) (vs ++ ws) := by
  refine ⟨by simp [h.1, h'.1], fun j t v a b => ?_⟩
  by_cases hj : j < ts.length
  · rw [List.getElem?_append_left hj] at a
    rw [List.getElem?_append_left (by rw [h.1]; exact hj)] at b
    exact h.2 j t v a b
  · rw [List.getElem?_append_right (by omega)] at a
    rw [List.getElem?_append_right (by rw [h.1]; omega), h.1] at b
    exact h'.2 _ t v a b

theorem callee_ok {f : T} {fv : Value} {args : List T} {vs : List Value} {g : FuncId} {args' : List T} (h : callee f args = some (g, args')) (hf : RepT X f fv) (hr : RepTs X args vs) :
    ∃ vals, (∀ w, (do let d ← Deferred.ofValue fv vs.toArray; invoke d.target d.args : Sem Next).run P w = (callFunc g vals.toArray).run P w) ∧ RepTs X args' vals := by
  unfold callee at h
  split at h
  · rename_i g' first captured
    split at h
    · rename_i h1 h2
      simp only [Option.some.injEq, Prod.mk.injEq] at h
      obtain ⟨rfl, rfl⟩ := h
      obtain rfl := toValue_eq (x := .func (.func g') first captured) rfl hf
      have h1 : first = #[] := Array.toList_eq_nil_iff.1 h1
      have h2 : captured = #[] := Array.toList_eq_nil_iff.1 h2
      subst h1; subst h2
      exact ⟨vs, fun w => by simp [Deferred.ofValue, invoke], hr⟩
    · simp at h
  · rename_i g' caps
    simp only [Option.some.injEq, Prod.mk.injEq] at h
    obtain ⟨rfl, rfl⟩ := h
    cases hf with | one _ _ hf => cases hf with | d _ _ hf =>
    cases hf with | fn _ _ us hl hu =>
    refine ⟨vs ++ us, fun w => by simp [Deferred.ofValue, invoke], hr.append ⟨by simp [hl], fun j t v a b => ?_⟩⟩
    rw [List.getElem?_map] at a
    cases hj : caps[j]? with
    | none => rw [hj] at a; simp at a
    | some d =>
      rw [hj] at a
      simp at a
      subst a
      exact .one _ _ (.d _ _ (hu j d v hj b))
  · rename_i g' caps
    simp only [Option.some.injEq, Prod.mk.injEq] at h
    obtain ⟨rfl, rfl⟩ := h
    cases hf with | one _ _ hf =>
    cases hf with | fn _ _ us hl hu =>
    refine ⟨vs ++ us, fun w => by simp [Deferred.ofValue, invoke], hr.append ⟨by simp [hl], fun j t v a b => ?_⟩⟩
    rw [List.getElem?_map] at a
    cases hj : caps[j]? with
    | none => rw [hj] at a; simp at a
    | some d =>
      rw [hj] at a
      simp at a
      subst a
      exact .one _ _ (hu j d v hj b)
  · simp at h

theorem callR_ok {E : Env} (hX : RepH X) {s : Sem Next} {g : FuncId} {args : List T} {vals : List Value} (h1 : s.run P w = (callFunc g vals.toArray).run P w) (hr : RepTs X args vals) {st : Step} (h : (callR E g args).OutIn X.h L st) :
    StepOK P X L w s st := by
  unfold callR at h
  split at h
  · simp only [Rd.outIn_ret] at h
    subst h
    exact .calls g args vals h1 hr.1 hr.2
  · rw [Rd.outIn_bind] at h
    obtain ⟨l, h2, h⟩ := h
    simp only [Rd.outIn_ret] at h
    subst h
    obtain ⟨l1, l2⟩ := resTs_ok hX h2
    refine .callp g l [] vals h1 (by rw [hr.1, l1]) fun j t v a b => ?_
    have hjl : j < args.length := by rw [← l1]; exact (List.getElem?_eq_some_iff.1 a).1
    exact l2 j _ t v (List.getElem?_eq_getElem hjl) a (hr.2 j _ v (List.getElem?_eq_getElem hjl) b)

theorem min_ok (hX : RepH X) (hw : w.heap = X.H) {s : Value → Value → Sem Value} {x y : T} {xv yv : Value} (hx : RepT X x xv) (hy : RepT X y yv) {st : Step}
    (h : (match toValue x, toValue y with
      | some a, some b => exactR P (s a b)
      | _, _ => .fail : Rd Step).Out X.h st) : ∃ e, st = .eff e ∧ OpOK P X w (do pure (.value (← s xv yv))) e := by
  split at h
  · rename_i a b h1 h2
    obtain rfl := toValue_eq h1 hx
    obtain rfl := toValue_eq h2 hy
    exact exactR_ok hX hw h
  · simp at h

theorem builtinR_ok (hX : RepH X) (hw : w.heap = X.H) {opq : Nat → Bool} {site : Nat} {b : Builtin} {ts : Array TypeId} {ty : TypeId} {consts : Array Bool} {args : List T} {vs : List Value} (hr : RepTs X args vs) {st : Step}
    (h : (builtinR P opq site b ts ty args).Out X.h st) : StepOK P X L w (builtin b ts ty consts vs.toArray) st := by
  have one : ∀ {x : T}, args = [x] → ∃ v, vs = [v] ∧ RepT X x v := by
    intro x e
    subst e
    obtain ⟨hl, hr⟩ := hr
    match vs, hl with
    | [v], _ => exact ⟨v, rfl, hr 0 x v rfl rfl⟩
  have two : ∀ {x y : T}, args = [x, y] → ∃ v u, vs = [v, u] ∧ RepT X x v ∧ RepT X y u := by
    intro x y e
    subst e
    obtain ⟨hl, hr⟩ := hr
    match vs, hl with
    | [v, u], _ => exact ⟨v, u, rfl, hr 0 x v rfl rfl, hr 1 y u rfl rfl⟩
  unfold builtinR at h
  split at h
  · obtain ⟨v, rfl, hx⟩ := one rfl
    apply StepOK.of
    split at h
    · rename_i t ht
      split at h
      · rename_i e hu
        rw [Rd.out_bind] at h
        obtain ⟨n, h1, h⟩ := h
        simp only [effR, Rd.out_ret] at h
        subst h
        exact ⟨_, rfl, OpOK.val hX hw (len_slice_ok ht hu hx h1) (.one _ _ (.d _ _ (.v _ rfl)))⟩
      · rename_i k e hu
        rw [Rd.out_bind] at h
        obtain ⟨n, h1, h⟩ := h
        simp only [effR, Rd.out_ret] at h
        subst h
        exact ⟨_, rfl, OpOK.val hX hw (len_map_ok hX hw ht hu hx h1) (.one _ _ (.d _ _ (.v _ rfl)))⟩
      · rename_i hu
        split at h
        · rename_i s
          simp only [effR, Rd.out_ret] at h
          subst h
          obtain rfl := toValue_eq (x := .string s) rfl hx
          exact ⟨_, rfl, OpOK.val hX hw (len_string_ok ht hu) (.one _ _ (.d _ _ (.v _ rfl)))⟩
        · simp at h
      · simp at h
    · simp at h
  · obtain ⟨v, u, rfl, hx, hy⟩ := two rfl
    exact StepOK.of (appendR_ok hX hw hx hy h)
  · obtain ⟨v, u, rfl, hx, hy⟩ := two rfl
    exact StepOK.of (copyR_ok hX hw hx hy h)
  · obtain ⟨v, rfl, hx⟩ := one rfl
    exact StepOK.of (clearR_ok hX hw hx h)
  · obtain ⟨v, u, rfl, hx, hy⟩ := two rfl
    exact StepOK.of (min_ok (s := fun a b => Builtin.min_ ts ty #[a, b]) hX hw hx hy h)
  · obtain ⟨v, u, rfl, hx, hy⟩ := two rfl
    exact StepOK.of (min_ok (s := fun a b => Builtin.max_ ts ty #[a, b]) hX hw hx hy h)
  · simp at h
end
end Go.Ex
