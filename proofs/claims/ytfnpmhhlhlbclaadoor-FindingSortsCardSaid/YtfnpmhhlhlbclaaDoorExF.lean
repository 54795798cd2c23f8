/- Exec, part F: single operations that compute a value, or an address. -/
import Derived.Test.YtfnpmhhlhlbclaaDoorExE
namespace Go.Ex

def updAll (h : Nat → Option Ent) : List (Nat × Ent) → Nat → Option Ent
  | [] => h
  | (i, e) :: r => updAll (updH h i e) r

/-- what the model's run of one operation comes to -/
def OpOK (P : Program) (X : Ctx) (w : World) (s : Sem Next) (e : Eff) : Prop :=
  ∃ nx v w' X', s.run P w = .ok nx w' ∧ (nx = .value v ∨ (nx = .skip ∧ v = undef)) ∧ (X'.H = w'.heap ∧ sysOf w' = sysOf w) ∧ X'.h = updAll X.h e.ws ∧ Le X X' ∧ RepH X' ∧ RepT X' e.val v

theorem pureRun_ok {α : Type} {P : Program} (s : Sem α) : ∀ {a : α}, pureRun P s = some a → ∀ w, s.run P w = .ok a w := by
  induction s with
  | pure a => intro b h w; simp [pureRun] at h; subst h; rfl
  | program k ih => intro b h w; simp only [Sem.run]; exact ih P (by simpa [pureRun] using h) w
  | mark m k ih => intro b h w; simp only [Sem.run]; exact ih (by simpa [pureRun] using h) w
  | _ => intro b h w; simp [pureRun] at h

section
variable {P : Program} {X : Ctx} {w : World}

theorem OpOK.val {s : Sem Value} {t : T} {v : Value} (hX : RepH X) (hw : w.heap = X.H) (hr : s.run P w = .ok v w) (ht : RepT X t v) :
    OpOK P X w (do pure (.value (← s))) { val := t, ws := [] } :=
  ⟨.value v, v, w, X, by simp [hr], .inl rfl, ⟨hw.symm, rfl⟩, rfl, .refl X, hX, ht⟩

theorem RepT.ofValue (v : Value) : RepT X (ofValue v) v := by
  unfold Ex.ofValue
  split
  · rename_i cs
    cases hc : cs.toList.all (·.oneCell') with
    | false => simp; exact .any _
    | true =>
      simp only
      rw [List.all_eq_true] at hc
      have := RepT.agg (X := X) (cs.toList.map fun c => .d (.v c)) cs.toList (by simp) (fun j c v h1 h2 => by
        rw [List.getElem?_map, h2] at h1
        simp at h1
        subst h1
        exact .d _ _ (.v v (hc v (List.mem_of_getElem? h2))))
      simpa using this
  · exact .any _
  · rename_i h1 h2
    refine .one _ _ (.d _ _ (.v _ ?_))
    cases v <;> first | rfl | exact absurd rfl (h1 _) | exact absurd rfl (h2 _)

theorem cellV_eq {c : C} {x v : Value} (h : cellV c = some x) (hr : RepC X c v) : v = x := by
  unfold cellV at h
  split at h
  · simp at h; subst h
    cases hr with | d _ _ hr => cases hr; rfl
  · simp at h

theorem cellsV_eq : ∀ {cs : List C} {xs vs : List Value}, cellsV cs = some xs → vs.length = cs.length → (∀ (j : Nat) (c : C) (v : Value), cs[j]? = some c → vs[j]? = some v → RepC X c v) → vs = xs
  | [], xs, vs, h, hl, _ => by simp [cellsV] at h; subst h; exact List.eq_nil_of_length_eq_zero hl
  | c :: r, xs, vs, h, hl, hr => by
    simp only [cellsV] at h
    cases h1 : cellV c with
    | none => rw [h1] at h; simp at h
    | some x =>
      cases h2 : cellsV r with
      | none => rw [h1, h2] at h; simp at h
      | some l =>
        rw [h1, h2] at h
        simp at h
        subst h
        cases vs with
        | nil => simp at hl
        | cons v vs =>
          have e1 := cellV_eq h1 (hr 0 c v rfl rfl)
          have e2 : vs = l := cellsV_eq h2 (by simpa using hl) fun j c v a b => hr (j + 1) c v (by simpa using a) (by simpa using b)
          rw [e1, e2]

theorem toValue_eq {t : T} {x v : Value} (h : toValue t = some x) (hr : RepT X t v) : v = x := by
  unfold toValue at h
  split at h
  · cases hr with | one _ _ hr => exact cellV_eq h hr
  · rename_i cs
    cases hr with | agg _ vs hl hr =>
    cases hc : cellsV cs with
    | none => rw [hc] at h; simp at h
    | some l => rw [hc] at h; simp at h; subst h; rw [cellsV_eq hc hl hr]
  · simp at h

theorem intOf_eq {t : T} {n : Int} {v : Value} (h : intOf? t = some n) (hr : RepT X t v) : ∃ k, v = .int k n := by
  unfold intOf? at h
  split at h
  · simp at h; subst h
    cases hr with | one _ _ hr => cases hr with | d _ _ hr => cases hr; exact ⟨_, rfl⟩
  · simp at h

theorem cellsT_ok {t : T} {cs : List C} {v : Value} (h : cellsT t = some cs) (hr : RepT X t v) : v.cells.toList.length = cs.length ∧
    (∀ (j : Nat) (c : C) (u : Value), cs[j]? = some c → v.cells.toList[j]? = some u → RepC X c u) ∧ ∀ u ∈ v.cells.toList, u.oneCell' = true := by
  have fin : (∀ (j : Nat) (c : C) (u : Value), cs[j]? = some c → v.cells.toList[j]? = some u → RepC X c u) → v.cells.toList.length = cs.length → ∀ u ∈ v.cells.toList, u.oneCell' = true := by
    intro h1 h2 u hu
    obtain ⟨j, hj⟩ := List.mem_iff_getElem?.1 hu
    have hlt := (List.getElem?_eq_some_iff.1 hj).1
    exact (h1 j cs[j] u (List.getElem?_eq_getElem (by omega)) hj).one
  unfold cellsT at h
  split at h
  · rename_i c
    simp at h; subst h
    cases hr with | one _ _ hr =>
    have hv : v.cells = #[v] := by have := hr.one; cases v <;> simp [Value.oneCell', Value.cells] at this ⊢
    have h1 : ∀ (j : Nat) (d : C) (u : Value), [c][j]? = some d → v.cells.toList[j]? = some u → RepC X d u := fun j d u h1 h2 => by
      rw [hv] at h2
      cases j with
      | zero => simp at h1 h2; subst h1 h2; exact hr
      | succ j => simp at h1
    exact ⟨by simp [hv], h1, fin h1 (by simp [hv])⟩
  · simp at h; subst h
    cases hr with | agg _ vs hl hr =>
    exact ⟨by simpa [Value.cells] using hl, by simpa [Value.cells] using hr, fin (by simpa [Value.cells] using hr) (by simpa [Value.cells] using hl)⟩
  · simp at h

theorem run_zeroValue {t : TypeId} {z : Value} (h : zero? P t = some z) : (zeroValue t).run P w = .ok z w := by
  unfold zero? at h
  cases hi : P.info? t with
  | none => rw [hi] at h; simp at h
  | some i => rw [hi] at h; simp at h; simp [zeroValue, typeInfo, hi, h]

theorem newAt_out {site : Nat} {b : Blk} {val : Nat → T} {st : Step} {h : Nat → Option Ent} (ho : (newAt site b val).Out h st) :
    st = .eff { val := val (nextVer (h site)), ws := [(site, { ver := nextVer (h site), blk := b })] } := by
  unfold newAt at ho
  rw [Rd.out_get] at ho
  simp at ho
  exact ho.symm

theorem nextVer_lt (h : Nat → Option Ent) (site : Nat) : ∀ en, h site = some en → en.ver < nextVer (h site) := by
  intro en he
  rw [he]
  simp [nextVer]

/-- a new block at a site -/
theorem new_ok (hX : RepH X) {site : Nat} {b : Blk} {o : Obj} {t : Nat → T} {s : Sem Value} {v : Value} {w' : World}
    (hr : s.run P w = .ok v w') (hw' : w'.heap = X.H.push o ∧ sysOf w' = sysOf w)
    (hB : ∀ X', Le X X' → X'.ρ site = X.H.size → X'.H[X.H.size]? = some o → RepB X' site b)
    (hT : ∀ X', Le X X' → X'.ρ site = X.H.size → X'.H[X.H.size]? = some o → X'.h site = some { ver := nextVer (X.h site), blk := b } → RepT X' (t (nextVer (X.h site))) v) :
    OpOK P X w (do pure (.value (← s))) { val := t (nextVer (X.h site)), ws := [(site, { ver := nextVer (X.h site), blk := b })] } := by
  have u := upd_alloc X site { ver := nextVer (X.h site), blk := b } o (nextVer_lt X.h site)
  have le := u.le hX
  have hρ : (X.alloc site { ver := nextVer (X.h site), blk := b } o).ρ site = X.H.size := by simp [Ctx.alloc]
  have hH : (X.alloc site { ver := nextVer (X.h site), blk := b } o).H[X.H.size]? = some o := getElem?_push_at
  exact ⟨.value v, v, w', _, by simp [hr], .inl rfl, ⟨by rw [hw'.1]; rfl, hw'.2⟩, rfl, le, u.rep hX (hB _ le hρ hH), hT _ le hρ hH (by simp [Ctx.alloc, updH])⟩

theorem RowOK.unmap {c : Array Value} {sz : Nat} {ds : List (List D)} (h : RowOK (RepC X) c sz (ds.map (·.map .d))) : RowOK (RepD X.H X.Z) c sz ds := by
  refine ⟨fun i cs hi => ?_, by simpa using h.2.1, fun i cs j d hi hj => ?_⟩
  · have := h.1 i (cs.map .d) (by rw [List.getElem?_map, hi]; rfl)
    simpa using this
  · obtain ⟨v, h1, h2⟩ := h.2.2 i (cs.map .d) j (.d d) (by rw [List.getElem?_map, hi]; rfl) (by rw [List.getElem?_map, hj]; rfl)
    cases h2 with | d _ _ h2 => exact ⟨v, h1, h2⟩

theorem toDs_eq : ∀ {cs : List C} {ds : List D}, toDs cs = some ds → cs = ds.map .d
  | [], ds, h => by simp [toDs] at h; subst h; rfl
  | c :: r, ds, h => by
    simp only [toDs] at h
    cases hr : toDs r with
    | none => rw [hr] at h; cases c <;> simp at h
    | some l =>
      rw [hr] at h
      cases c with
      | d x => simp at h; subst h; simp [toDs_eq hr]
      | _ => simp at h
theorem toDss_eq : ∀ {es : List (List C)} {ds : List (List D)}, toDss es = some ds → es = ds.map (·.map .d)
  | [], ds, h => by simp [toDss] at h; subst h; rfl
  | c :: r, ds, h => by
    simp only [toDss] at h
    cases h1 : toDs c with
    | none => rw [h1] at h; simp at h
    | some x =>
      cases h2 : toDss r with
      | none => rw [h1, h2] at h; simp at h
      | some l => rw [h1, h2] at h; simp at h; subst h; simp [toDs_eq h1, ← toDss_eq h2]

theorem mkBlk_row {id sz : Nat} {es : List (List C)} {c : Array Value} {ty : TypeId} (hc : X.H[X.ρ id]? = some (.cells c ty (0, 0))) (h : RowOK (RepC X) c sz es) : RepB X id (mkBlk sz es) := by
  unfold mkBlk
  cases hd : toDss es with
  | none => simp only; exact ⟨c, ty, hc, h⟩
  | some ds =>
    simp only
    rw [toDss_eq hd] at h
    exact ⟨c, ty, hc, h.unmap⟩

theorem mkBlk_shape (sz : Nat) (es : List (List C)) : (mkBlk sz es).row = some (sz, es.length) := by
  unfold mkBlk
  cases hd : toDss es with
  | none => rfl
  | some ds => rw [toDss_eq hd]; simp [Blk.row]

/-- a reference to the first cell of a new row -/
theorem ptr_new {X' : Ctx} {site ver b : Nat} {blk : Blk} (hρ : X'.ρ site = b) (hh : X'.h site = some { ver := ver, blk := blk }) : RepT X' (.one (.ptr site ver 0 0)) (.pointer (some ⟨b, 0, none⟩)) :=
  .one _ _ (.ptr site ver 0 0 _ _ rfl hh (Nat.le_refl _) fun _ sz' n' hq => by rw [hρ]; simp)

theorem own_new {X' : Ctx} {site ver sz n b cap : Nat} {blk : Blk} (hρ : X'.ρ site = b) (hh : X'.h site = some { ver := ver, blk := blk }) (hs : blk.row = some (sz, n)) (hn : n ≤ cap) (hc : cap * sz ≤ rowCells X'.H b) :
    RepT X' (.one (.own site ver)) (.slice (some ⟨b, 0, none⟩) n cap) :=
  .one _ _ (.own site ver _ _ rfl hh (Nat.le_refl _) fun _ sz' n' hq => by
    simp only at hq
    rw [hs] at hq
    simp at hq
    obtain ⟨rfl, rfl⟩ := hq
    exact ⟨cap, by rw [hρ], hn, by rw [hρ]; exact hc⟩)

/-! alloc, box -/
theorem run_newVar (t : TypeId) (v : Value) : (newVar t v).run P w = .ok ⟨w.heap.size, 0, none⟩ { w with heap := w.heap.push (.cells v.cells t) } := by
  simp [newVar, newRow]

theorem one_row {R : C → Value → Prop} {v : Value} {cs : List C} (hl : v.cells.toList.length = cs.length) (hr : ∀ (j : Nat) (c : C) (u : Value), cs[j]? = some c → v.cells.toList[j]? = some u → R c u) :
    RowOK R v.cells cs.length [cs] := by
  refine ⟨fun i l hi => ?_, by simp at hl ⊢; omega, fun i l j d hi hj => ?_⟩
  · cases i with
    | zero => simp at hi; subst hi; rfl
    | succ i => simp at hi
  · cases i with
    | zero =>
      simp at hi
      subst hi
      have hlt := (List.getElem?_eq_some_iff.1 hj).1
      have hlt' : j < v.cells.toList.length := by omega
      refine ⟨v.cells.toList[j], ?_, hr j d _ hj (List.getElem?_eq_getElem hlt')⟩
      simp at hlt' ⊢
    | succ i => simp at hi

theorem box_ok (hX : RepH X) (hw : w.heap = X.H) {site : Nat} {t : TypeId} {x : T} {v : Value} {cs : List C} (hx : RepT X x v) (hc : cellsT x = some cs) :
    OpOK P X w (do pure (.value (← Instr.box t v))) { val := .one (.ptr site (nextVer (X.h site)) 0 0), ws := [(site, { ver := nextVer (X.h site), blk := mkBlk cs.length [cs] })] } := by
  obtain ⟨h1, h2, _⟩ := cellsT_ok hc hx
  refine new_ok (t := fun n => .one (.ptr site n 0 0)) (o := .cells v.cells t) hX (v := .pointer (some ⟨w.heap.size, 0, none⟩)) (w' := { w with heap := w.heap.push (.cells v.cells t) }) (by simp [Instr.box, run_newVar]) ⟨by simp [hw], rfl⟩ (fun X' le hρ hH => ?_) (fun X' le hρ hH hh => ?_)
  · exact mkBlk_row (by rw [hρ]; exact hH) (one_row h1 fun j c u a b => (h2 j c u a b).mono le)
  · rw [hw]; exact ptr_new hρ hh

theorem zeroCs_ok {t : TypeId} {z : List D} (h : zeroCs P t = some z) : ∃ zv, zero? P t = some zv ∧ z = zv.cells.toList.map .v ∧ ∀ x ∈ zv.cells.toList, x.oneCell' = true := by
  unfold zeroCs at h
  cases hzv : zero? P t with
  | none => rw [hzv] at h; simp at h
  | some zv =>
    rw [hzv] at h
    simp only at h
    cases ha : zv.cells.toList.all (·.oneCell') with
    | false => rw [ha] at h; simp at h
    | true =>
      rw [ha] at h
      simp at h
      rw [List.all_eq_true] at ha
      exact ⟨zv, rfl, h.symm, ha⟩

theorem vals_row {zv : List Value} (h1 : ∀ x ∈ zv, x.oneCell' = true) (j : Nat) (d : D) (hj : (zv.map D.v)[j]? = some d) : ∃ v, zv[j]? = some v ∧ RepD X.H X.Z d v := by
  rw [List.getElem?_map] at hj
  cases hx : zv[j]? with
  | none => rw [hx] at hj; simp at hj
  | some x =>
    rw [hx] at hj
    simp at hj
    subst hj
    exact ⟨x, rfl, .v x (h1 x (List.mem_of_getElem? hx))⟩

theorem alloc_ok (hX : RepH X) (hw : w.heap = X.H) {site : Nat} {t : TypeId} {z : List D} {size : Nat} (hz : zeroCs P t = some z) (hs : z.length = size) :
    OpOK P X w (do pure (.value (← Instr.alloc t true (.tuple #[])))) { val := .one (.ptr site (nextVer (X.h site)) 0 0), ws := [(site, { ver := nextVer (X.h site), blk := .dat false size [z] })] } := by
  obtain ⟨zv, hzv, rfl, h1⟩ := zeroCs_ok hz
  refine new_ok (t := fun n => .one (.ptr site n 0 0)) (o := .cells zv.cells t) hX (v := .pointer (some ⟨w.heap.size, 0, none⟩)) (w' := { w with heap := w.heap.push (.cells zv.cells t) }) (by simp [Instr.alloc, run_zeroValue hzv, run_newVar]) ⟨by simp [hw], rfl⟩ (fun X' le hρ hH => ?_) (fun X' le hρ hH hh => ?_)
  · refine ⟨zv.cells, t, by rw [hρ]; exact hH, fun i l hi => ?_, ?_, fun i l j d hi hj => ?_⟩
    · cases i with
      | zero => simp at hi; subst hi; simpa using hs
      | succ i => simp at hi
    · simp at hs ⊢; omega
    · cases i with
      | zero =>
        simp at hi
        subst hi
        obtain ⟨v, h3, h4⟩ := vals_row (X := X') h1 j d hj
        exact ⟨v, by simpa using h3, h4⟩
      | succ i => simp at hi
  · rw [hw]; exact ptr_new hρ hh
end
end Go.Ex
