/- Exec, part U: what a loop's head keeps. -/
import Derived.Test.YtfnpmhhlhlbclaaDoorExT
namespace Go.Ex

/-- less is the call's own -/
def KeepStep (X Y : Ctx) : Prop := Y.H = X.H ∧ (∀ b, X.N b → Y.N b) ∧ Y.F = X.F ∧ Y.W = X.W

theorem Heap.get_filter (ids : List Nat) (h : Heap) (id : Nat) : (keepHeap ids h).get id = if ids.any (Nat.beq id) = true then h.get id else none := by
  induction h with
  | nil => simp [keepHeap, Heap.get]
  | cons p r ih =>
    obtain ⟨i, e⟩ := p
    unfold keepHeap at ih ⊢
    rw [List.filter_cons]
    by_cases hi : ids.any (Nat.beq i) = true
    · rw [if_pos hi]
      simp only [Heap.get]
      cases hb : Nat.beq i id with
      | true =>
        obtain rfl := Nat.eq_of_beq_eq_true hb
        simp [hi]
      | false => exact ih
    · rw [if_neg hi]
      rw [ih]
      simp only [Heap.get]
      cases hb : Nat.beq i id with
      | true =>
        obtain rfl := Nat.eq_of_beq_eq_true hb
        rw [if_neg hi, if_neg hi]
      | false => rfl

theorem Heap.get_map (f : Ent → Ent) (h : Heap) (id : Nat) : Heap.get (h.map fun (i, e) => (i, f e)) id = (h.get id).map f := by
  induction h with
  | nil => rfl
  | cons p r ih =>
    obtain ⟨i, e⟩ := p
    simp only [List.map_cons, Heap.get]
    cases hb : Nat.beq i id with
    | true => rfl
    | false => exact ih

theorem cleanB_row (h : Heap) (b : Blk) : (cleanB h b).row = b.row := by cases b <;> simp [cleanB, Blk.row]
theorem cleanB_live (h : Heap) (b : Blk) : (cleanB h b).live = b.live := by cases b <;> simp [cleanB, Blk.live]
theorem cleanB_isMap (h : Heap) (b : Blk) : (cleanB h b).isMap = b.isMap := by cases b <;> simp [cleanB, Blk.isMap]

section
variable {X : Ctx} {h0 : Heap} {ids : List Nat}

/-- the state behind a loop's head -/
def kept (X : Ctx) (h0 : Heap) : Ctx := { X with h := fun id => (h0.get id).map fun e => { ver := 0, blk := cleanB h0 e.blk } }

/-- what is kept was there -/
def Sub (X : Ctx) (h0 : Heap) : Prop := ∀ id en, h0.get id = some en → X.h id = some en

theorem kept_h {id : Nat} {en : Ent} (hg : h0.get id = some en) : (kept X h0).h id = some { ver := 0, blk := cleanB h0 en.blk } := by simp [kept, hg]

theorem kept_of {id : Nat} {en : Ent} (hg : (kept X h0).h id = some en) : ∃ e, h0.get id = some e ∧ en = { ver := 0, blk := cleanB h0 e.blk } := by
  simp only [kept] at hg
  cases he : h0.get id with
  | none => rw [he] at hg; simp at hg
  | some e => rw [he] at hg; simp at hg; exact ⟨e, rfl, hg.symm⟩

theorem kept_step (hs : Sub X h0) : KeepStep X (kept X h0) := by
  refine ⟨rfl, fun b hz id en hg hl => ?_, rfl, rfl⟩
  obtain ⟨e, he, rfl⟩ := kept_of hg
  rw [cleanB_live] at hl
  exact hz id e (hs id e he) hl

theorem kept_kept (hs : Sub X h0) : Kept X.H (kept X h0).H X.Z (kept X h0).Z := ⟨Nat.le_refl _, fun b _ hz => ⟨rfl, (kept_step hs).2.1 b hz.1, hz.2⟩⟩

theorem cleanC_ok (hs : Sub X h0) {c : C} {v : Value} (hc : RepC X c v) : RepC (kept X h0) (cleanC h0 c) v := by
  have one := hc.one
  cases hc with
  | any _ h => exact .any _ h
  | d x _ h => exact .d _ _ (h.mono (kept_kept hs))
  | fn => exact .any _ one
  | ptr id ver e o en _ h1 hh hv hp =>
    simp only [cleanC]
    cases hg : h0.get id with
    | none => exact .any _ one
    | some x =>
      simp only
      cases hb : Nat.beq x.ver ver with
      | false => exact .any _ one
      | true =>
        have hb := Nat.eq_of_beq_eq_true hb
        have := hs id x hg
        rw [hh] at this
        cases this
        refine .ptr id 0 e o _ _ h1 (kept_h hg) (Nat.le_refl _) fun _ sz n hq => ?_
        simp only [cleanB_row] at hq
        exact hp hb.symm sz n hq
  | own id ver en _ h1 hh hv hp =>
    simp only [cleanC]
    cases hg : h0.get id with
    | none => exact .any _ one
    | some x =>
      simp only
      cases hb : Nat.beq x.ver ver with
      | false => exact .any _ one
      | true =>
        have hb := Nat.eq_of_beq_eq_true hb
        have := hs id x hg
        rw [hh] at this
        cases this
        refine .own id 0 _ _ h1 (kept_h hg) (Nat.le_refl _) fun _ sz n hq => ?_
        simp only [cleanB_row] at hq
        exact hp hb.symm sz n hq
  | sl id ver e len en _ h1 hh hv hp =>
    simp only [cleanC]
    cases hg : h0.get id with
    | none => exact .any _ one
    | some x =>
      simp only
      cases hb : Nat.beq x.ver ver with
      | false => exact .any _ one
      | true =>
        have hb := Nat.eq_of_beq_eq_true hb
        have := hs id x hg
        rw [hh] at this
        cases this
        refine .sl id 0 e len _ _ h1 (kept_h hg) (Nat.le_refl _) fun _ sz n hq => ?_
        simp only [cleanB_row] at hq
        exact hp hb.symm sz n hq
  | mp id ver en _ h1 hh hv hp =>
    simp only [cleanC]
    cases hg : h0.get id with
    | none => exact .any _ one
    | some x =>
      simp only
      cases hb : Nat.beq x.ver ver with
      | false => exact .any _ one
      | true =>
        have hb := Nat.eq_of_beq_eq_true hb
        have := hs id x hg
        rw [hh] at this
        cases this
        refine .mp id 0 _ _ h1 (kept_h hg) (Nat.le_refl _) fun _ hm => ?_
        simp only [cleanB_isMap] at hm
        exact hp hb.symm hm

theorem cleanCs_ok (hs : Sub X h0) {cs : List C} {vs : List Value} (hr : ∀ (j : Nat) (c : C) (v : Value), cs[j]? = some c → vs[j]? = some v → RepC X c v) (j : Nat) (c : C) (v : Value) (hc : (cs.map (cleanC h0))[j]? = some c) (hv : vs[j]? = some v) :
    RepC (kept X h0) c v := by
  rw [List.getElem?_map] at hc
  cases hj : cs[j]? with
  | none => rw [hj] at hc; simp at hc
  | some x =>
    rw [hj] at hc
    simp at hc
    subst hc
    exact cleanC_ok hs (hr j x v hj hv)

theorem cleanT_ok (hs : Sub X h0) {t : T} {v : Value} (ht : RepT X t v) : RepT (kept X h0) (cleanT h0 t) v := by
  cases ht with
  | any => exact .any _
  | one c _ h => exact .one _ _ (cleanC_ok hs h)
  | agg cs vs hl hr => exact .agg _ _ (by simp [hl]) (cleanCs_ok hs hr)
  | aggd ds vs hl hr => exact .aggd _ _ hl fun j d v a b => (hr j d v a b).mono (kept_kept hs)
  | tup => exact .any _

theorem cleanF_ok (hX : RepH X) (hs : Sub X h0) (fz : List Nat) {h : Heap} (hh : X.h = h.get) {t : T} {v : Value} (ht : RepT X t v) : RepT (kept X h0) (cleanF fz h h0 t) v := by
  unfold cleanF
  split
  · rename_i id ver
    split
    · rename_i h1 vv q sz es he h2 h3
      split
      · rename_i hv
        have hv := Nat.eq_of_beq_eq_true hv
        subst hv
        cases ht with | one _ _ hc =>
        have hg : X.h id = some ⟨vv, .dat q sz es⟩ := by rw [hh]; exact h3
        have key := resC_ok (L := fun i => i = id) hX 1 (c := .own id vv) (d := .ro false sz es) (v := v) (by
          simp only [resC, Rd.outIn_bind]
          refine ⟨.dat q sz es, ?_, by simp⟩
          simp [block, hg]) hc
        refine .one _ _ (.d _ _ (key.mono ⟨Nat.le_refl _, fun b _ hz => ⟨rfl, fun id' en' hg' hl' => ?_, hz.1⟩⟩))
        obtain ⟨e', he', rfl⟩ := kept_of hg'
        rw [cleanB_live] at hl'
        refine hz.2 id' e' (hs id' e' he') hl' fun ee => ?_
        subst ee
        rw [h2] at he'
        cases he'
      · exact .any _
    · exact cleanT_ok hs ht
  · exact cleanT_ok hs ht

theorem cleanB_ok (hs : Sub X h0) {id : Nat} {b : Blk} (hb : RepB X id b) : RepB (kept X h0) id (cleanB h0 b) := by
  cases b with
  | dead => trivial
  | dat q sz es =>
    obtain ⟨c, ty, h1, h2, h3, h4⟩ := hb
    refine ⟨c, ty, h1, h2, h3, fun i cs j d a b => ?_⟩
    obtain ⟨v, hv, hr⟩ := h4 i cs j d a b
    exact ⟨v, hv, hr.mono (kept_kept hs)⟩
  | refs sz es =>
    obtain ⟨c, ty, h1, h2, h3, h4⟩ := hb
    have get : ∀ (i : Nat) (cs : List C), (es.map (·.map (cleanC h0)))[i]? = some cs → ∃ cs0, es[i]? = some cs0 ∧ cs = cs0.map (cleanC h0) := by
      intro i cs hi
      rw [List.getElem?_map] at hi
      cases he : es[i]? with
      | none => rw [he] at hi; simp at hi
      | some x => rw [he] at hi; simp at hi; exact ⟨x, rfl, hi.symm⟩
    refine ⟨c, ty, h1, fun i cs hi => ?_, by simpa using h3, fun i cs j d a b => ?_⟩
    · obtain ⟨x, hx, rfl⟩ := get i cs hi
      simpa using h2 i x hx
    · obtain ⟨x, hx, rfl⟩ := get i cs a
      rw [List.getElem?_map] at b
      cases hj : x[j]? with
      | none => rw [hj] at b; simp at b
      | some y =>
        rw [hj] at b
        simp at b
        subst b
        obtain ⟨v, hv, hr⟩ := h4 i x j y hx hj
        exact ⟨v, hv, cleanC_ok hs hr⟩
  | mp ents =>
    obtain ⟨es, clock, h1, h2, h3⟩ := hb
    refine ⟨es, clock, h1, by simpa using h2, fun i k t a => ?_⟩
    rw [List.getElem?_map] at a
    cases he : ents[i]? with
    | none => rw [he] at a; simp at a
    | some q =>
      obtain ⟨k0, t0⟩ := q
      rw [he] at a
      simp at a
      obtain ⟨rfl, rfl⟩ := a
      obtain ⟨e, g1, g2, g3⟩ := h3 i _ t0 he
      refine ⟨e, g1, g2, ?_⟩
      split
      · cases g3 with | one _ _ g3 => exact .one _ _ (cleanC_ok hs g3)
      · exact cleanT_ok hs (t := .agg _) g3
      · exact cleanT_ok hs g3

theorem kept_rep (hX : RepH X) (hs : Sub X h0) : RepH (kept X h0) := by
  refine ⟨fun id en hg => ?_, fun id en id' en' hg hg' hl hl' he => ?_, fun id en hg hl => ?_, hX.far⟩
  · obtain ⟨e, he, rfl⟩ := kept_of hg
    exact cleanB_ok hs (hX.blk id e (hs id e he))
  · obtain ⟨e, g1, rfl⟩ := kept_of hg
    obtain ⟨e', g2, rfl⟩ := kept_of hg'
    simp only [cleanB_live] at hl hl'
    exact hX.inj id e id' e' (hs id e g1) (hs id' e' g2) hl hl' he
  · obtain ⟨e, g1, rfl⟩ := kept_of hg
    simp only [cleanB_live] at hl
    exact hX.own id e (hs id e g1) hl
end

/-- what a loop's head may forget -/
def KeepRel (k : Keep) (X Y : Ctx) : Prop := match k.soft with
  | true => Y = X
  | false => KeepStep X Y

theorem keepSt_ok {E : Env} {X : Ctx} {s : St} {a : Act} {w : World} (k : Keep) (r : Rel E X s.get s.tm.length a w) (hXh : X.h = s.h.get) :
    ∃ Y, KeepRel k X Y ∧ Y.h = (keepSt k s).h.get ∧ (keepSt k s).tm.length = s.tm.length ∧ Rel E Y (keepSt k s).get s.tm.length a w := by
  cases hsoft : k.soft with
  | true =>
    have e : keepSt k s = { tm := nthT k.tm s.tm, h := s.h } := by simp only [keepSt, hsoft]
    rw [e]
    refine ⟨X, by simp only [KeepRel, hsoft], hXh, by simp [nthT], ⟨r.heap, r.rep, fun t => ?_, r.len, r.glob, r.dfr⟩⟩
    have : ({ tm := nthT k.tm s.tm, h := s.h } : St).get t = .any ∨ ({ tm := nthT k.tm s.tm, h := s.h } : St).get t = s.get t := by
      simp only [St.get, List.getD_eq_getElem?_getD, nthT, List.getElem?_map, List.getElem?_zipIdx]
      cases hj : s.tm[t]? with
      | none => exact .inl (by simp)
      | some x =>
        simp only [Option.map_some, Option.getD_some]
        split
        · exact .inr rfl
        · exact .inl rfl
    rcases this with h | h
    · rw [h]; exact .any _
    · rw [h]; exact r.tmp t
  | false =>
  have ek : keepSt k s = { tm := (nthT k.tm s.tm).map (cleanF k.fz s.h (keepHeap k.ids s.h)), h := (keepHeap k.ids s.h).map fun (i, e) => (i, { ver := 0, blk := cleanB (keepHeap k.ids s.h) e.blk }) } := by simp only [keepSt, hsoft]
  have hs : Sub X (keepHeap k.ids s.h) := by
    intro id en hg
    rw [Heap.get_filter] at hg
    split at hg
    · rw [hXh]; exact hg
    · simp at hg
  rw [ek]
  refine ⟨kept X (keepHeap k.ids s.h), by simp only [KeepRel, hsoft]; exact kept_step hs, ?_, by simp [nthT], ?_⟩
  · funext id
    simp only
    rw [Heap.get_map (fun e => { ver := 0, blk := cleanB (keepHeap k.ids s.h) e.blk })]
    rfl
  · refine ⟨r.heap, kept_rep r.rep hs, fun t => ?_, r.len, fun g cs hg => (r.glob g cs hg).mono (kept_kept hs), r.dfr⟩
    have : ∀ h', ({ tm := (nthT k.tm s.tm).map (cleanF k.fz s.h (keepHeap k.ids s.h)), h := h' } : St).get t = .any ∨ ({ tm := (nthT k.tm s.tm).map (cleanF k.fz s.h (keepHeap k.ids s.h)), h := h' } : St).get t = cleanF k.fz s.h (keepHeap k.ids s.h) (s.get t) := by
      intro h'
      simp only [St.get, List.getD_eq_getElem?_getD, List.getElem?_map, nthT, List.getElem?_zipIdx]
      cases hj : s.tm[t]? with
      | none => exact .inl (by simp)
      | some x =>
        simp only [Option.map_some, Option.getD_some]
        split
        · exact .inr rfl
        · exact .inl rfl
    rcases this _ with h | h
    · rw [h]; exact .any _
    · rw [h]; exact cleanF_ok r.rep hs k.fz hXh (r.tmp t)
end Go.Ex
