/- Exec, part R: a step of the text's run, taken from a state that agrees with the text's on what it reads; regions. -/
import Derived.Test.YtfnpmhhlhlbclaaDoorExQ
namespace Go.Ex

/-! ### heaps -/
theorem Heap.get_set (h : Heap) (j : Nat) (x : Ent) (k : Nat) : (h.set j x).get k = if k = j then some x else h.get k := by
  induction h with
  | nil =>
    simp only [Heap.set, Heap.get]
    cases hb : Nat.beq j k with
    | true => simp [Nat.eq_of_beq_eq_true hb]
    | false => simp [show k ≠ j from fun e => by subst e; simp at hb]
  | cons p r ih =>
    obtain ⟨i, e⟩ := p
    simp only [Heap.set, Heap.get]
    cases hb : Nat.beq i j with
    | true =>
      obtain rfl := Nat.eq_of_beq_eq_true hb
      simp only [Heap.get]
      cases hk : Nat.beq i k with
      | true => simp [Nat.eq_of_beq_eq_true hk]
      | false => simp [show k ≠ i from fun e => by subst e; simp at hk]
    | false =>
      simp only [Heap.get]
      cases hk : Nat.beq i k with
      | true =>
        obtain rfl := Nat.eq_of_beq_eq_true hk
        simp [show i ≠ j from fun e => by subst e; simp at hb]
      | false => exact ih

theorem Heap.get_setAll : ∀ (l : List (Nat × Ent)) (h : Heap), (h.setAll l).get = updAll h.get l
  | [], h => rfl
  | (i, e) :: r, h => by
    simp only [Heap.setAll, updAll]
    rw [Heap.get_setAll r]
    congr 1
    funext k
    rw [Heap.get_set]
    rfl

theorem updAll_local (id : Nat) : ∀ (l : List (Nat × Ent)) (h h' : Nat → Option Ent), (id ∈ l.map (·.1) ∨ h id = h' id) → updAll h l id = updAll h' l id
  | [], h, h', e => by simpa [updAll] using e
  | (i, x) :: r, h, h', e => by
    simp only [updAll]
    refine updAll_local id r _ _ ?_
    by_cases hi : id = i
    · exact .inr (by simp [updH, hi])
    · rcases e with e | e
      · simp only [List.map_cons, List.mem_cons] at e
        exact .inl (e.resolve_left hi)
      · exact .inr (by simp [updH, hi, e])

theorem updAll_none (id : Nat) : ∀ (l : List (Nat × Ent)) (h : Nat → Option Ent), id ∉ l.map (·.1) → updAll h l id = h id
  | [], h, _ => rfl
  | (i, x) :: r, h, e => by
    simp only [List.map_cons, List.mem_cons, not_or] at e
    simp only [updAll]
    rw [updAll_none id r _ e.2]
    simp [updH, e.1]

def dead (e : Ent) : Ent := { ver := e.ver, blk := .dead }

theorem killAll_get (h : Heap) (id : Nat) : ∀ (ids : List Nat) (g : Nat → Option Ent), updAll g (killAll h ids) id = if id ∈ ids ∧ (h.get id).isSome then (h.get id).map dead else g id
  | [], g => by simp [killAll, updAll]
  | i :: r, g => by
    simp only [killAll]
    cases hi : h.get i with
    | none =>
      simp only
      rw [killAll_get h id r g]
      by_cases e : id = i
      · subst e; simp [hi]
      · simp [e]
    | some x =>
      simp only [updAll]
      rw [killAll_get h id r]
      by_cases e : id = i
      · subst e; simp [hi, updH, dead]
      · simp [e, updH]

theorem Heap.get_mem {h : Heap} {id : Nat} {e : Ent} (hg : h.get id = some e) : id ∈ h.map (·.1) := by
  induction h with
  | nil => simp [Heap.get] at hg
  | cons p r ih =>
    obtain ⟨i, x⟩ := p
    simp only [Heap.get] at hg
    cases hb : Nat.beq i id with
    | true => simp [Nat.eq_of_beq_eq_true hb]
    | false => rw [hb] at hg; simp [ih hg]

theorem kill_get (h : Heap) (ids : List Nat) : (h.setAll (killAll h ids)).get = fun id => if id ∈ ids then (h.get id).map dead else h.get id := by
  rw [Heap.get_setAll]
  funext id
  rw [killAll_get]
  by_cases hid : id ∈ ids
  · cases hg : h.get id with
    | none => simp
    | some e => simp [hid]
  · simp [hid]

/-! ### behind a call with data alone -/
section
variable {X : Ctx} {H' : Array Obj}

theorem grow_le (hX : RepH X) (hs : X.H.size ≤ H'.size) (hk : ∀ b, b < X.H.size → H'[b]? = X.H[b]?) : Le X { X with H := H' } := by
  refine ⟨hs, fun b hb hz => ⟨hk b hb, hz⟩, rfl, rfl, fun id en h => ⟨en, h, Nat.le_refl _, fun _ => ⟨fun q hq => ⟨hq, rfl, ?_⟩, fun hm => ⟨hm, rfl⟩⟩⟩⟩
  rw [rowCells_of (hk _ ((hX.blk id en h).lt (Blk.row_live hq)))]
  exact Nat.le_refl _

theorem grow_rep (hX : RepH X) (hs : X.H.size ≤ H'.size) (hk : ∀ b, b < X.H.size → H'[b]? = X.H[b]?) : RepH { X with H := H' } :=
  ⟨fun id en h => (hX.blk id en h).mono (grow_le hX hs hk) rfl fun hl => hk _ ((hX.blk id en h).lt hl), hX.inj, hX.own, fun b hb => Nat.lt_of_lt_of_le (hX.far b hb) hs⟩

/-- blocks of the call's own are given up -/
def killed (X : Ctx) (H' : Array Obj) (ids : List Nat) : Ctx := { X with H := H', h := fun id => if id ∈ ids then (X.h id).map dead else X.h id }

theorem killed_of {ids : List Nat} {id : Nat} {en : Ent} (h : (killed X H' ids).h id = some en) : (en.blk = .dead ∧ ∃ e, X.h id = some e) ∨ (id ∉ ids ∧ X.h id = some en) := by
  simp only [killed] at h
  by_cases hid : id ∈ ids
  · rw [if_pos hid] at h
    cases hx : X.h id with
    | none => rw [hx] at h; simp at h
    | some e => rw [hx] at h; simp at h; subst h; exact .inl ⟨rfl, e, rfl⟩
  · rw [if_neg hid] at h
    exact .inr ⟨hid, h⟩

theorem killed_live {ids : List Nat} {id : Nat} {en : Ent} (h : (killed X H' ids).h id = some en) (hl : en.blk.live = true) : id ∉ ids ∧ X.h id = some en := by
  rcases killed_of h with ⟨h1, _⟩ | h1
  · rw [h1] at hl; simp [Blk.live] at hl
  · exact h1

theorem killed_le (hX : RepH X) (ids : List Nat) (hs : X.H.size ≤ H'.size) (hk : ∀ b, b < X.H.size → H'[b]? = X.H[b]?) : Le X (killed X H' ids) := by
  refine ⟨hs, fun b hb hz => ⟨hk b hb, fun id en h hl => hz id en (killed_live h hl).2 hl⟩, rfl, rfl, fun id en h => ?_⟩
  by_cases hid : id ∈ ids
  · exact ⟨dead en, by simp [killed, hid, h], Nat.le_refl _, fun _ => ⟨fun q hq => by simp [dead, Blk.row] at hq, fun hm => by simp [dead, Blk.isMap] at hm⟩⟩
  · refine ⟨en, by simp [killed, hid, h], Nat.le_refl _, fun _ => ⟨fun q hq => ⟨hq, rfl, ?_⟩, fun hm => ⟨hm, rfl⟩⟩⟩
    show rowCells X.H (X.ρ id) ≤ rowCells H' (X.ρ id)
    rw [rowCells_of (hk _ ((hX.blk id en h).lt (Blk.row_live hq)))]
    exact Nat.le_refl _

theorem killed_rep (hX : RepH X) (ids : List Nat) (hs : X.H.size ≤ H'.size) (hk : ∀ b, b < X.H.size → H'[b]? = X.H[b]?) : RepH (killed X H' ids) := by
  refine ⟨fun id en h => ?_, fun id en id' en' h h' hl hl' => hX.inj id en id' en' (killed_live h hl).2 (killed_live h' hl').2 hl hl', fun id en h hl => hX.own id en (killed_live h hl).2 hl, fun b hb => Nat.lt_of_lt_of_le (hX.far b hb) hs⟩
  rcases killed_of h with ⟨h1, _⟩ | ⟨_, h1⟩
  · rw [h1]; trivial
  · exact (hX.blk id en h1).mono (killed_le hX ids hs hk) rfl fun hl => hk _ ((hX.blk id en h1).lt hl)

/-- data is data elsewhere -/
theorem RepC.data {X Y : Ctx} (hX : X.h = fun _ => none) (k : Kept X.H Y.H X.Z Y.Z) {c : C} {v : Value} (h : RepC X c v) : RepC Y c v := by
  induction h with
  | any v h => exact .any v h
  | d x v h => exact .d x v (h.mono k)
  | fn f caps vs hl _ ih => exact .fn f caps vs hl ih
  | ptr _ _ _ _ _ _ _ hh => rw [hX] at hh; simp at hh
  | own _ _ _ _ _ hh => rw [hX] at hh; simp at hh
  | sl _ _ _ _ _ _ _ hh => rw [hX] at hh; simp at hh
  | mp _ _ _ _ _ hh => rw [hX] at hh; simp at hh

theorem RepT.data {X Y : Ctx} (hX : X.h = fun _ => none) (k : Kept X.H Y.H X.Z Y.Z) {t : T} {v : Value} (h : RepT X t v) : RepT Y t v := by
  induction h with
  | any v => exact .any v
  | one c v h => exact .one c v (h.data hX k)
  | agg cs vs hl hr => exact .agg cs vs hl fun j c v h1 h2 => (hr j c v h1 h2).data hX k
  | aggd ds vs hl hr => exact .aggd ds vs hl fun j d v h1 h2 => (hr j d v h1 h2).mono k
  | tup ts vs hl _ ih => exact .tup ts vs hl ih

theorem bare_killed {ids : List Nat} {t : T} {v : Value} (h : RepT { X.bare (· ∈ ids) with H := H' } t v) : RepT (killed X H' ids) t v := by
  have k : Kept ({ X.bare (· ∈ ids) with H := H' } : Ctx).H (killed X H' ids).H ({ X.bare (· ∈ ids) with H := H' } : Ctx).Z (killed X H' ids).Z := by
    refine ⟨Nat.le_refl _, fun b _ hz => ⟨rfl, ?_, ?_⟩⟩
    · have hz := Classical.not_not.1 hz.2
      exact fun id en h hl => hz.2 id en (killed_live h hl).2 hl (killed_live h hl).1
    · exact (Classical.not_not.1 hz.2).1
  exact RepT.data (Y := killed X H' ids) rfl k h

theorem bare_far (hX : RepH X) {L : Nat → Prop} (b : Nat) (h : (X.bare L).F b) : b < (X.bare L).H.size := by
  apply Classical.byContradiction
  intro hge
  have hge : X.H.size ≤ b := Nat.le_of_not_lt hge
  exact h ⟨fun hf => by have := hX.far b hf; omega, fun id en he hl _ e => by have := (hX.blk id en he).lt hl; omega⟩

theorem bare_glob {E : Env} {L : Nat → Prop} (h : GlobOK E X) : GlobOK E (X.bare L) := fun g cs hg =>
  ⟨bareD (h g cs hg).rep.loose, ⟨⟨fun id en h => by simp [Ctx.bare] at h, fun hn => hn ⟨(h g cs hg).far.1.2, fun id en h' hl _ => (h g cs hg).far.1.1 id en h' hl⟩⟩, (h g cs hg).far.2⟩, (h g cs hg).all⟩

theorem flatC {Y Z : Ctx} {x : Value} {v : Value} (h : RepC Y (.d (.v x)) v) : RepC Z (.d (.v x)) v := by
  cases h with | d _ _ h => cases h with | v _ h => exact .d _ _ (.v _ h)

theorem flat_any {Y Z : Ctx} {r : T} {v : Value} (hf : isFlat r = true) (h : RepT Y r v) : RepT Z r v := by
  unfold isFlat at hf
  split at hf
  · cases h with | one _ _ h => exact .one _ _ (flatC h)
  · rename_i ts
    rw [List.all_eq_true] at hf
    cases h with | tup _ vs hl hr =>
    refine .tup ts vs hl fun j t v a b => ?_
    have h1 := hf t (List.mem_of_getElem? a)
    have h2 := hr j t v a b
    split at h1
    · cases h2 with | one _ _ h => exact .one _ _ (flatC h)
    · simp at h1
  · rename_i cs
    rw [List.all_eq_true] at hf
    cases h with | agg _ vs hl hr =>
    refine .agg cs vs hl fun j c v a b => ?_
    have h1 := hf c (List.mem_of_getElem? a)
    have h2 := hr j c v a b
    split at h1
    · exact flatC h2
    · simp at h1
  · simp at hf
end

/-! ### a step -/
theorem wanted_of {ops : Array Oper} {o : Oper} {s : St} {E : Env} {X : Ctx} {tm : Nat → T} {n : Nat} {a : Act} {w : World} (r : Rel E X tm n a w) (htm : ∀ t, t ∈ o.looksAt ops → tm t = s.get t) (hw : Wanted ops o s) :
    Region.wanted o (yielded ops a.tmps) = true := by
  unfold Wanted at hw
  unfold Region.wanted
  cases hg : o.guard with
  | none => rfl
  | some p =>
    obtain ⟨j, want⟩ := p
    rw [hg] at hw
    obtain ⟨d, hd, hs⟩ := hw
    have hd' : (ops[j]?).bind (·.dst) = some d := hd
    have hl : d ∈ o.looksAt ops := by
      unfold Oper.looksAt
      rw [hg]
      simp [hd']
    have ht := r.tmp d
    rw [htm d hl, hs] at ht
    have hv := toValue_eq (x := .bool want) rfl ht
    simp only [yielded, hd', Option.bind_some]
    rw [Array.getD_eq_getD_getElem?] at hv
    cases hx : a.tmps[d]? with
    | none => rw [hx] at hv; simp [undef] at hv
    | some v => rw [hx] at hv; simp at hv; subst hv; simp

theorem unwanted_of {ops : Array Oper} {o : Oper} {s : St} {E : Env} {X : Ctx} {tm : Nat → T} {n : Nat} {a : Act} {w : World} (r : Rel E X tm n a w) (htm : ∀ t, t ∈ o.looksAt ops → tm t = s.get t) {j : Nat} {want : Bool} {d : Tmp}
    (hg : o.guard = some (j, want)) (hd : dstOf ops j = some d) (hs : s.get d = unitT ∨ s.get d = boolT (!want)) : Region.wanted o (yielded ops a.tmps) = false := by
  unfold Region.wanted
  rw [hg]
  have hd' : (ops[j]?).bind (·.dst) = some d := hd
  have hl : d ∈ o.looksAt ops := by
    unfold Oper.looksAt
    rw [hg]
    simp [hd']
  have ht := r.tmp d
  rw [htm d hl] at ht
  simp only [yielded, hd', Option.bind_some]
  rw [Array.getD_eq_getD_getElem?] at ht
  cases hx : a.tmps[d]? with
  | none => simp
  | some v =>
    rw [hx] at ht
    simp only [Option.getD_some] at ht
    rcases hs with hs | hs
    · rw [hs] at ht
      cases ht with | tup _ vs hl _ => simp
    · rw [hs] at ht
      have hv := toValue_eq (x := .bool (!want)) rfl ht
      subst hv
      cases want <;> simp

/-- the blocks behind a step -/
def heapAfter (h : Nat → Option Ent) (s1 : St) : Option Mk → Nat → Option Ent
  | none, id => h id
  | some mk, id => if id ∈ mk.ws then s1.h.get id else h id

theorem stp_sound {E : Env} {S : Calls'} (ok : SOK E S) {base i : Nat} {ops : Array Oper} {o : Oper} {s s1 : St} {m : Option Mk} (hs : Stp E S base ops i o s s1 m) {X : Ctx} {tm : Nat → T} {a : Act} {w : World} (r : Rel E X tm s.tm.length a w)
    (hi : ops[i]? = some o) (htm : ∀ t, t ∈ o.looksAt ops → tm t = s.get t)
    (hh : ∀ mk, m = some mk → (∀ id, id ∈ mk.rs → X.h id = s.h.get id) ∧ (mk.call = true → X.h = s.h.get)) {K : Act → World → Prop} {Q : Exit → Act → World → Prop}
    (hK : ∀ a' w' X', Le X X' → Rel E X' (fun d => if o.dst = some d then s1.get d else tm d) s.tm.length a' w' →
      (∀ id, X'.h id = heapAfter X.h s1 m id) → K a' w') : wpOp E.P ops Q i K a w := by
  have same : ∀ (v : T) (h' : Heap), (fun d => if o.dst = some d then (s.put o.dst v).get d else tm d) = (fun d => if o.dst = some d then ({ (s.put o.dst v) with h := h' } : St).get d else tm d) := fun _ _ => rfl
  have hev : ∀ x ∈ o.op.operands, evO E s.get x = evO E tm x := by
    intro x hx
    cases x with
    | tmp t =>
      have : t ∈ o.looksAt ops := List.mem_append_left _ (List.mem_filterMap.2 ⟨.tmp t, by simpa using hx, rfl⟩)
      simp only [evO, htm t this]
    | _ => rfl
  have out : ∀ {st l mk}, (absOp E (base + i) (evO E s.get) o).val s.h.get = some (st, l) → m = some mk → mk.rs = l.reverse ++ [] → StepOK E.P X (· ∈ mk.rs) w (execOp a.eval o) st := by
    intro st l mk hv hm hrs
    have h1 := (hh mk hm).1
    rw [absOp_congr o hev] at hv
    have := Rd.val_local _ hv (h' := X.h) fun id hid => h1 id (by rw [hrs]; simpa using hid)
    exact absOp_ok r.rep r.heap.1 r.ev ⟨l, this, fun id hid => by rw [hrs]; simpa using hid⟩
  have run : Wanted ops o s → o.wp E.P a w K Q → wpOp E.P ops Q i K a w := by
    intro hw h
    unfold wpOp
    simp only [hi, wanted_of r htm hw, if_true]
    exact .inl h
  cases hs with
  | skip j want d hg hd hsk =>
    unfold wpOp
    simp only [hi, unwanted_of r htm hg hd hsk, Bool.false_eq_true, if_false]
    exact hK _ _ X (.refl X) (r.put (.refl X) r.heap r.rep (.tup [] [] rfl (by simp))) fun _ => rfl
  | eff hw e l hv =>
    refine run hw ?_
    have hst := out hv rfl rfl
    cases hst with | eff _ hop =>
    obtain ⟨nx, v, w', X', h1, h2, h3, h4, h5, h6, h7⟩ := hop
    have hk : K (a.put o.dst v) w' := by
      refine hK _ _ X' h5 ?_ fun id => ?_
      · rw [← same]
        exact r.put h5 ⟨h3.1.symm, by rw [h3.2, h5.sys]; exact r.heap.2⟩ h6 h7
      · simp only [h4, heapAfter]
        rw [Heap.get_setAll]
        by_cases hid : id ∈ e.ws.map (·.1)
        · rw [if_pos hid]; exact updAll_local id _ _ _ (.inl hid)
        · rw [if_neg hid]; exact updAll_none id _ _ hid
    unfold Oper.wp
    rw [h1]
    rcases h2 with rfl | ⟨rfl, rfl⟩
    · exact hk
    · exact hk
  | flat hw g args gone rt l hv hr hf =>
    refine run hw ?_
    have hst := out hv rfl rfl
    cases hst with | callp _ _ _ vals h1 hl hra =>
    obtain ⟨hc, hpure⟩ := ok.pure g args rt hr
    unfold Oper.wp
    rw [h1, callFunc_enter hc]
    refine Calls.mono (hpure _ w vals rfl (bare_far r.rep) r.heap (bare_glob r.glob) ⟨hl, hra⟩) ?_
    rintro e w' ⟨v, rfl, g0, g1, g2, g3⟩
    rw [r.heap.1] at g1 g2
    refine hK _ _ { X with H := w'.heap } (grow_le r.rep g1 g2) ?_ fun id => by simp [heapAfter]
    exact r.put (grow_le r.rep g1 g2) ⟨rfl, by rw [g0]; exact r.heap.2⟩ (grow_rep r.rep g1 g2) (flat_any hf g3)
  | kill hw g args gone rt l hv hr =>
    refine run hw ?_
    have hst := out hv rfl rfl
    cases hst with | callp _ _ _ vals h1 hl hra =>
    obtain ⟨hc, hpure⟩ := ok.pure g args rt hr
    have hXh := (hh _ rfl).1
    unfold Oper.wp
    rw [h1, callFunc_enter hc]
    refine Calls.mono (hpure _ w vals rfl (bare_far r.rep) r.heap (bare_glob r.glob) ⟨hl, hra⟩) ?_
    rintro e w' ⟨v, rfl, g0, g1, g2, g3⟩
    rw [r.heap.1] at g1 g2
    refine hK _ _ (killed X w'.heap (l.reverse ++ [])) (killed_le r.rep _ g1 g2) ?_ fun id => ?_
    · rw [← same]
      exact r.put (killed_le r.rep _ g1 g2) ⟨rfl, by rw [g0]; exact r.heap.2⟩ (killed_rep r.rep _ g1 g2) (bare_killed g3)
    · simp only [kill_get, heapAfter, killed]
      by_cases hid : id ∈ l.reverse ++ []
      · rw [if_pos hid, if_pos hid, if_pos hid, hXh id hid]
      · rw [if_neg hid, if_neg hid]
  | calls hw g args rt h' ws l hv hr =>
    refine run hw ?_
    have hst := out hv rfl rfl
    cases hst with | calls _ _ vals h1 hl hra =>
    obtain ⟨hc, hws, hheap⟩ := ok.heap g args s.h rt h' ws hr
    have hXh := (hh _ rfl).2 rfl
    unfold Oper.wp
    rw [h1, callFunc_enter hc]
    refine Calls.mono (hheap X w vals hXh r.heap r.rep r.glob ⟨hl, hra⟩) ?_
    rintro e w' ⟨v, X', rfl, g1, g2, g3, g4, g5⟩
    refine hK _ _ X' g3 ?_ fun id => ?_
    · rw [← same]
      exact r.put g3 g1 g4 g5
    · simp only [g2, heapAfter]
      by_cases hid : id ∈ ws
      · rw [if_pos hid]
      · rw [if_neg hid, hws id hid, hXh]
end Go.Ex
