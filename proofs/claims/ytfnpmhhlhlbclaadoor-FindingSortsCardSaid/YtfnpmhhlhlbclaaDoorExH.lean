/- Exec, part H: append, copy, clear, make, and literals of slices and structs. -/
import Derived.Test.YtfnpmhhlhlbclaaDoorExG
namespace Go.Ex

section
variable {P : Program} {X : Ctx} {w : World}

theorem slElem_eq {t e : TypeId} (h : slElem? P t = some e) : P.underlying t = some (.slice e) := by
  unfold slElem? at h
  split at h
  · rename_i e' he; simp at h; subst h; exact he
  · simp at h

theorem firstCells_ok {size n : Nat} {v : Value} {vs : List Value} (h : SliceAt w v n vs) (hl : vs.length = n * size) : (Builtin.firstCells size n v).run P w = .ok vs.toArray w := by
  obtain ⟨a, cap, rfl, h | ⟨ad, rfl, h⟩⟩ := h
  · subst h
    have : vs = [] := List.eq_nil_of_length_eq_zero (by simpa using hl)
    subst this
    cases a <;> simp [Builtin.firstCells, loadCells, loadCellsFrom]
  · exact run_firstCells_some w size n ad n cap vs hl h

theorem lenOf_ok {n : Nat} {v : Value} {vs : List Value} (h : SliceAt w v n vs) : (Builtin.lenOf v).run P w = .ok n w := by
  obtain ⟨a, cap, rfl, _⟩ := h
  simp [Builtin.lenOf]

/-- append where there is room -/
theorem run_append_in {t ty e : TypeId} {i : TypeInfo} (ht : P.underlying t = some (.slice e)) (hi : P.info? e = some i) {b off sLen sCap m : Nat} {x : Value} {vs : List Value}
    (hx : SliceAt w x m vs) (hl : vs.length = m * i.size) (hroom : sLen + m ≤ sCap) {w' : World} (hst : (storeCells ⟨b, off + sLen * i.size, none⟩ vs).run P w = .ok () w') :
    (Builtin.append_ #[t, t] ty #[.slice (some ⟨b, off, none⟩) sLen sCap, x]).run P w = .ok (.slice (some ⟨b, off, none⟩) (sLen + m) sCap) w' := by
  have hf := firstCells_ok (P := P) hx hl
  have hn := lenOf_ok (P := P) hx
  simp [Builtin.append_, run_underlying ht, sizeOf, typeInfo, hi, hn, hroom, hf, Addr.add_lit, hst]

/-- append of nothing -/
theorem run_append_zero {t ty e : TypeId} {i : TypeInfo} (ht : P.underlying t = some (.slice e)) (hi : P.info? e = some i) {a : Option Addr} {sLen sCap : Nat} {x : Value}
    (hx : SliceAt w x 0 []) (hroom : sLen ≤ sCap) :
    (Builtin.append_ #[t, t] ty #[.slice a sLen sCap, x]).run P w = .ok (.slice a sLen sCap) w := by
  have hf := firstCells_ok (P := P) (size := i.size) hx (by simp)
  have hn := lenOf_ok (P := P) hx
  cases a with
  | none => simp [Builtin.append_, run_underlying ht, sizeOf, typeInfo, hi, hn, hroom, hf]
  | some a => simp [Builtin.append_, run_underlying ht, sizeOf, typeInfo, hi, hn, hroom, hf, storeCells]

theorem srcBlk_row (sz : Nat) (l : Src) : (srcBlk sz l).row = some (sz, l.len) := by cases l <;> rfl

theorem joinBlk_row {sz n : Nat} {b b' : Blk} {l : Src} (hj : joinBlk sz b l = some b') (hr : b.row = some (sz, n)) : b'.row = some (sz, n + l.len) := by
  cases b <;> cases l <;> simp [joinBlk, Blk.row] at hj hr <;> obtain ⟨rfl, rfl⟩ := hr <;> subst hj <;> simp [Blk.row, Src.len]

/-- a joined block, in whatever memory holds both -/
theorem joinBlk_rep {X' : Ctx} (le : Le X X') {id sz n : Nat} {b b' : Blk} {l : Src} {vs : List Value} {c c' : Array Value} {ty ty' : TypeId} (hj : joinBlk sz b l = some b') (hr : b.row = some (sz, n))
    (hB : RepB X id b) (hc : X.H[X.ρ id]? = some (.cells c ty (0, 0))) (hs : SrcOK X sz vs l) (hc' : X'.H[X'.ρ id]? = some (.cells c' ty' (0, 0)))
    (comb : ∀ {α : Type} (R : α → Value → Prop) (es l' : List (List α)), es.length = n → l'.length = l.len → RowOK R c sz es → RowOK R vs.toArray sz l' → RowOK R c' sz (es ++ l')) : RepB X' id b' := by
  cases b with
  | dead => simp [Blk.row] at hr
  | mp _ => simp [Blk.row] at hr
  | dat q sz0 es =>
    simp only [Blk.row, Option.some.injEq, Prod.mk.injEq] at hr
    obtain ⟨rfl, rfl⟩ := hr
    obtain ⟨c0, ty0, h0, hrow⟩ := hB
    rw [hc] at h0
    simp at h0
    obtain ⟨rfl, rfl⟩ := h0
    have hrow : RowOK (RepD X.H X.Z) c sz0 es := hrow
    have hrow' := hrow.mono (fun d v h => RepD.mono le.kept h)
    cases l with
    | ds l =>
      simp [joinBlk] at hj
      subst hj
      exact ⟨c', ty', hc', comb _ es l rfl rfl hrow' (RowOK.mono (show RowOK (RepD X.H X.Z) vs.toArray sz0 l from hs) fun d v h => RepD.mono le.kept h)⟩
    | cs l =>
      simp [joinBlk] at hj
      subst hj
      have q := comb (RepC X') (es.map (fun (x : List D) => x.map C.d) : List (List C)) l (by simp) rfl (hrow'.map C.d (R' := RepC X') fun d v h => .d d v h) (RowOK.mono (show RowOK (RepC X) vs.toArray sz0 l from hs) fun d v h => RepC.mono le h)
      exact ⟨c', ty', hc', q⟩
  | refs sz0 es =>
    simp only [Blk.row, Option.some.injEq, Prod.mk.injEq] at hr
    obtain ⟨rfl, rfl⟩ := hr
    obtain ⟨c0, ty0, h0, hrow⟩ := hB
    rw [hc] at h0
    simp at h0
    obtain ⟨rfl, rfl⟩ := h0
    have hrow : RowOK (RepC X) c sz0 es := hrow
    have hrow' := hrow.mono (fun d v h => RepC.mono le h)
    cases l with
    | ds l =>
      simp [joinBlk] at hj
      subst hj
      have q := comb (RepC X') es (l.map (fun (x : List D) => x.map C.d) : List (List C)) rfl (by simp [Src.len]) hrow' ((RowOK.mono (show RowOK (RepD X.H X.Z) vs.toArray sz0 l from hs) fun d v h => RepD.mono le.kept h).map C.d fun d v h => .d d v h)
      exact ⟨c', ty', hc', q⟩
    | cs l =>
      simp [joinBlk] at hj
      subst hj
      exact ⟨c', ty', hc', comb _ es l rfl rfl hrow' (RowOK.mono (show RowOK (RepC X) vs.toArray sz0 l from hs) fun d v h => RepC.mono le h)⟩

theorem RowOK.concat {α : Type} {R : α → Value → Prop} {c : Array Value} {sz : Nat} {es l : List (List α)} {vs rest : List Value} (h : RowOK R c sz es) (hs : RowOK R vs.toArray sz l) (hl : vs.length = l.length * sz) :
    RowOK R (c.toList.take (es.length * sz) ++ vs ++ rest).toArray sz (es ++ l) := by
  have hp : (c.toList.take (es.length * sz)).length = es.length * sz := by have := h.2.1; simp; omega
  refine ⟨fun i cs hi => ?_, ?_, fun i cs j d hi hj => ?_⟩
  · rw [List.getElem?_append] at hi
    split at hi
    · exact h.1 i cs hi
    · exact hs.1 _ cs hi
  · have := h.2.1
    simp only [List.size_toArray, List.length_append, hp, hl, Nat.add_mul]
    omega
  · simp only [List.getElem?_toArray]
    rw [List.append_assoc, List.getElem?_append, hp]
    rw [List.getElem?_append] at hi
    by_cases h1 : i < es.length
    · rw [if_pos h1] at hi
      have hlen : cs.length = sz := h.1 i cs hi
      have hjl : j < sz := by rw [← hlen]; exact (List.getElem?_eq_some_iff.1 hj).1
      have hk := mul_lt_of h1 hjl
      rw [if_pos hk, List.getElem?_take, if_pos hk]
      obtain ⟨v, hv, hr⟩ := h.2.2 i cs j d hi hj
      exact ⟨v, by simpa using hv, hr⟩
    · rw [if_neg h1] at hi
      have hlen : cs.length = sz := hs.1 _ cs hi
      have hjl : j < sz := by rw [← hlen]; exact (List.getElem?_eq_some_iff.1 hj).1
      have hil := (List.getElem?_eq_some_iff.1 hi).1
      have hk := mul_lt_of hil hjl
      have h5 : i * sz = (i - es.length) * sz + es.length * sz := by rw [← Nat.add_mul]; congr 1; omega
      rw [if_neg (by omega), List.getElem?_append, if_pos (by rw [hl]; omega), show i * sz + j - es.length * sz = (i - es.length) * sz + j by omega]
      obtain ⟨v, hv, hr⟩ := hs.2.2 (i - es.length) cs j d hi hj
      exact ⟨v, by simpa using hv, hr⟩

/-- nothing but a version has turned -/
theorem upd_same {id : Nat} {en en' : Ent} (he : X.h id = some en) (hl : en.blk.live = true) (hv : en.ver < en'.ver) : Upd X { X with h := updH X.h id en' } id en' where
  hh := rfl
  hρ _ _ := rfl
  hF := rfl
  hW := rfl
  size := Nat.le_refl _
  keep _ _ _ := rfl
  place _ := .inr ⟨en, he, hl, rfl⟩
  ver en0 h0 := by rw [he] at h0; obtain rfl := Option.some.inj h0; exact .inl hv

theorem markQ_row (f : Bool) (b : Blk) : (markQ f b).row = b.row := by cases f <;> cases b <;> rfl
theorem markQ_rep {X : Ctx} {id : Nat} {f : Bool} {b : Blk} : RepB X id (markQ f b) ↔ RepB X id b := by cases f <;> cases b <;> exact Iff.rfl

/-- append to a row of the call's own -/
theorem append_own_ok (hX : RepH X) (hw : w.heap = X.H) {t ty e : TypeId} {i : TypeInfo} {z : Value} (ht : P.underlying t = some (.slice e)) (hi : P.info? e = some i) (hz : i.zero = some z)
    (hb0 : 0 < i.bytes) (hzs : z.cells.size = i.size) {id ver n : Nat} {l : Src} {b b' : Blk} {f : Bool} {sv xv : Value} (hs : RepT X (.one (.own id ver)) sv)
    {vs : List Value} (hvl : vs.length = l.len * i.size) (hsrc : SrcOK X i.size vs l) (hxv : SliceAt w xv l.len vs) (hb : (block id ver).Out X.h b) (hr : b.row = some (i.size, n)) (hj : joinBlk i.size b l = some b')
    (hbd : (n + l.len) * i.bytes ≤ 140737488355328) :
    OpOK P X w (do pure (.value (← Builtin.append_ #[t, t] ty #[sv, xv]))) { val := .one (.own id (ver + 1)), ws := [(id, { ver := ver + 1, blk := markQ f b' })] } := by
  obtain ⟨en, he, hv, rfl⟩ := block_out hb
  cases hs with | one _ _ hs =>
  cases hs with | own _ _ en0 _ _ hh _ hp =>
  rw [he] at hh
  obtain rfl := Option.some.inj hh
  obtain ⟨cap, rfl, hn, hcap⟩ := hp hv.symm _ _ hr
  have hB := hX.blk id en he
  have hlive := Blk.row_live hr
  have hjr := (markQ_row f b').trans (joinBlk_row hj hr)
  obtain ⟨c, cty, hc⟩ : ∃ c ty, X.H[X.ρ id]? = some (.cells c ty (0, 0)) := by
    cases hk : en.blk with
    | dead => rw [hk] at hr; simp [Blk.row] at hr
    | mp _ => rw [hk] at hr; simp [Blk.row] at hr
    | dat q sz es => rw [hk] at hB; obtain ⟨c, ty, h, _⟩ := hB; exact ⟨c, ty, h⟩
    | refs sz es => rw [hk] at hB; obtain ⟨c, ty, h, _⟩ := hB; exact ⟨c, ty, h⟩
  have hrc : rowCells X.H (X.ρ id) = c.size := by simp [rowCells, hc]
  rw [hrc] at hcap
  have hsmall : n + l.len ≤ 140737488355328 := Nat.le_trans (Nat.le_mul_of_pos_right _ hb0) hbd
  by_cases hroom : n + l.len ≤ cap
  · -- there is room
    have hfit : n * i.size + vs.length ≤ c.size := by
      rw [hvl, ← Nat.add_mul]
      exact Nat.le_trans (Nat.mul_le_mul_right _ hroom) hcap
    obtain ⟨w', X', a1, a2, a3, a4, a5, a6, a7⟩ := write_row (P := P) hX hw he (en' := { ver := ver + 1, blk := markQ f b' }) hlive hc hfit (hsrc.one hvl) (.inl (show en.ver < ver + 1 by omega)) (fun X' le hρ hH => by
      refine markQ_rep.2 (joinBlk_rep le hj hr hB hc hsrc (by rw [hρ]; exact hH) fun R es l' he' hl' h1 h2 => ?_)
      have := RowOK.splice h1 (e := es.length) (l := l') (vs := vs) (Nat.le_refl _) h2 (by rw [hl']; exact hvl) (by rw [he', hl']; exact Nat.le_trans (Nat.mul_le_mul_right _ hroom) hcap)
      rw [he'] at this
      have e1 : List.take n es = es := List.take_of_length_le (by omega)
      have e2 : List.drop (n + l'.length) es = [] := List.drop_of_length_le (by omega)
      rw [e1, e2, List.append_nil] at this
      exact this)
    refine ⟨.value (.slice (some ⟨X.ρ id, 0, none⟩) (n + l.len) cap), _, w', X', by simp [run_append_in (ty := ty) ht hi hxv hvl hroom (off := 0) (by simpa using a1)], .inl rfl, a2, a3, a5, a6, ?_⟩
    refine .one _ _ (.own id (ver + 1) { ver := ver + 1, blk := markQ f b' } _ rfl (by rw [a3, updH_same]) (Nat.le_refl _) fun _ sz n' hq => ?_)
    simp only at hq
    rw [hjr] at hq
    simp at hq
    obtain ⟨rfl, rfl⟩ := hq
    exact ⟨cap, by rw [a4], hroom, by rw [a4, a7, hrc]; exact hcap⟩
  · -- it moves
    have hm : 0 < l.len := by omega
    obtain ⟨a, xcap, rfl, h0 | ⟨ad, rfl, hnews⟩⟩ := hxv
    · omega
    have holds : ∀ (j : Nat) (u : Value), (c.toList.take (n * i.size))[j]? = some u → w.cell? ((⟨X.ρ id, 0, none⟩ : Addr).add j) = some u := by
      intro j u hj'
      rw [List.getElem?_take] at hj'
      split at hj'
      · rw [Addr.add_lit, cell?_eq, hw]; simp only [cellAt, hc, Nat.zero_add]; simpa using hj'
      · simp at hj'
    have hnc : n * i.size ≤ c.size := Nat.le_trans (Nat.mul_le_mul_right _ hn) hcap
    have hrun := run_append_grow (P := P) w t ty e i z ht hi hz ⟨X.ρ id, 0, none⟩ n cap (c.toList.take (n * i.size)) (by simp; omega) holds ad l.len xcap vs hvl hnews (by omega) (by omega) (growslice_fits (by omega) hbd)
    let cap' := grownCap w (n + l.len) cap e
    have hge : n + l.len ≤ cap' := grownCap_ge w (n + l.len) cap e
    let o : Obj := .cells ((c.toList.take (n * i.size)).toArray ++ vs.toArray ++ Builtin.zeroCells z.cells (cap' - (n + l.len))) e
    have u := upd_alloc X id { ver := ver + 1, blk := markQ f b' } o (fun en' h => by rw [he] at h; obtain rfl := Option.some.inj h; show en.ver < ver + 1; omega)
    have le := u.le hX
    have hρ : (X.alloc id { ver := ver + 1, blk := markQ f b' } o).ρ id = X.H.size := by simp [Ctx.alloc]
    have hH : (X.alloc id { ver := ver + 1, blk := markQ f b' } o).H[X.H.size]? = some o := getElem?_push_at
    have ho : o = .cells (c.toList.take (n * i.size) ++ vs ++ (Builtin.zeroCells z.cells (cap' - (n + l.len))).toList).toArray e := by
      simp only [o]
      congr 1
      apply Array.ext'
      simp [List.append_assoc]
    have hBn : RepB (X.alloc id { ver := ver + 1, blk := markQ f b' } o) id (markQ f b') := by
      refine markQ_rep.2 (joinBlk_rep le hj hr hB hc hsrc (by rw [hρ, hH, ho]) fun R es l' he' hl' h1 h2 => ?_)
      have := RowOK.concat h1 h2 (rest := (Builtin.zeroCells z.cells (cap' - (n + l.len))).toList) (by rw [hl']; exact hvl)
      rw [he'] at this
      exact this
    refine ⟨.value (.slice (some ⟨w.heap.size, 0, none⟩) (n + l.len) cap'), _, _, _, by simp only [Sem.run_bind, hrun, Result.andThen, Sem.run_pure]; rfl, .inl rfl, ?_, rfl, le, u.rep hX hBn, ?_⟩
    · exact ⟨by simp [Ctx.alloc, World.alloc, World.drew, hw, o, cap'], rfl⟩
    · refine .one _ _ (.own id (ver + 1) { ver := ver + 1, blk := markQ f b' } _ rfl (by simp [Ctx.alloc, updH]) (Nat.le_refl _) fun _ sz n' hq => ?_)
      simp only at hq
      rw [hjr] at hq
      simp at hq
      obtain ⟨rfl, rfl⟩ := hq
      refine ⟨cap', by rw [hρ, hw], hge, ?_⟩
      rw [hρ]
      have hsz := size_zeroCells z.cells (cap' - (n + l.len))
      have hll : (List.take (n * i.size) c.toList).length = n * i.size := by rw [List.length_take]; simp; omega
      simp only [rowCells, hH, o, Array.size_append, List.size_toArray, hll, hsz, hzs, hvl, ← Nat.add_mul]
      exact Nat.mul_le_mul_right _ (by omega)

/-- append to nil -/
theorem append_nil_ok (hX : RepH X) (hw : w.heap = X.H) {t ty e : TypeId} {i : TypeInfo} {z : Value} (ht : P.underlying t = some (.slice e)) (hi : P.info? e = some i) (hz : i.zero = some z)
    (hb0 : 0 < i.bytes) (hzs : z.cells.size = i.size) {site : Nat} {f : Bool} {l : Src} {xv : Value} {vs : List Value} (hvl : vs.length = l.len * i.size) (hsrc : SrcOK X i.size vs l) (hxv : SliceAt w xv l.len vs)
    (hm : 0 < l.len) (hbd : l.len * i.bytes ≤ 140737488355328) :
    OpOK P X w (do pure (.value (← Builtin.append_ #[t, t] ty #[.slice none 0 0, xv]))) { val := .one (.own site (nextVer (X.h site))), ws := [(site, { ver := nextVer (X.h site), blk := markQ f (srcBlk i.size l) })] } := by
  obtain ⟨a, xcap, rfl, h0 | ⟨ad, rfl, hnews⟩⟩ := hxv
  · omega
  have hsmall : l.len ≤ 140737488355328 := Nat.le_trans (Nat.le_mul_of_pos_right _ hb0) hbd
  have hrun := run_append_nil (P := P) w t ty e i z ht hi hz ad l.len xcap vs hvl hnews hm (by omega) (by omega)
  have hge := grownCap_ge w l.len 0 e
  have hrow : ∀ {α : Type} {R : α → Value → Prop} {es : List (List α)}, RowOK R vs.toArray i.size es → RowOK R (vs.toArray ++ Builtin.zeroCells z.cells (grownCap w l.len 0 e - l.len)) i.size es := by
    intro α R es h
    refine ⟨h.1, ?_, fun k cs j d hk hj => ?_⟩
    · have := h.2.1; simp only [Array.size_append]; omega
    · obtain ⟨v, hv, hr⟩ := h.2.2 k cs j d hk hj
      have hlt := (Array.getElem?_eq_some_iff.1 hv).1
      exact ⟨v, by rw [Array.getElem?_append_left hlt]; exact hv, hr⟩
  refine new_ok (t := fun n => .one (.own site n)) hX (o := .cells (vs.toArray ++ Builtin.zeroCells z.cells (grownCap w l.len 0 e - l.len)) e) hrun ⟨by simp [World.alloc, World.drew, hw], rfl⟩ (fun X' le hρ hH => ?_) (fun X' le hρ hH hh => ?_)
  · have hs' := hsrc.mono le
    refine markQ_rep.2 ?_
    cases l with
    | ds l => exact ⟨_, e, by rw [hρ]; exact hH, hrow hs'⟩
    | cs l => exact ⟨_, e, by rw [hρ]; exact hH, hrow hs'⟩
  · rw [hw]
    refine own_new hρ hh ((markQ_row f _).trans (srcBlk_row _ _)) hge ?_
    have hsz := size_zeroCells z.cells (grownCap w l.len 0 e - l.len)
    simp only [rowCells, hH, Array.size_append, List.size_toArray, hsz, hzs, hvl, ← Nat.add_mul]
    exact Nat.mul_le_mul_right _ (by omega)

/-! ### elements written in place -/
theorem spliceBlk_ok (hX : RepH X) (hw : w.heap = X.H) {id e sz n : Nat} {en : Ent} {l : Src} {vs : List Value} {b' : Blk} (he : X.h id = some en) (hr : en.blk.row = some (sz, n))
    (hsp : (spliceBlk en.blk e l).Out X.h b') (hs : SrcOK X sz vs l) (hl : vs.length = l.len * sz) :
    ∃ w' X', (storeCells ⟨X.ρ id, e * sz, none⟩ vs).run P w = .ok () w' ∧ (X'.H = w'.heap ∧ sysOf w' = sysOf w) ∧ X'.h = updH X.h id { ver := en.ver, blk := b' } ∧ X'.ρ = X.ρ ∧ Le X X' ∧ RepH X' ∧
      rowCells X'.H (X.ρ id) = rowCells X.H (X.ρ id) ∧ b'.row = some (sz, n) ∧ e + l.len ≤ n := by
  have hB := hX.blk id en he
  have fin : ∀ {α β : Type} (R : Ctx → α → Value → Prop) (es : List (List α)) (l' : List (List α)) (mk : List (List α) → Blk), es.length = n → l'.length = l.len → (∀ es, (mk es).row = some (sz, es.length)) →
      (∀ X' id c ty es, X'.H[X'.ρ id]? = some (.cells c ty (0, 0)) → RowOK (R X') c sz es → RepB X' id (mk es)) →
      (∃ c ty, X.H[X.ρ id]? = some (.cells c ty (0, 0)) ∧ ∀ X', Le X X' → RowOK (R X') c sz es) → (∀ X', Le X X' → RowOK (R X') vs.toArray sz l') → e + l.len ≤ n → b' = mk (setCells es e l') →
      ∃ w' X', (storeCells ⟨X.ρ id, e * sz, none⟩ vs).run P w = .ok () w' ∧ (X'.H = w'.heap ∧ sysOf w' = sysOf w) ∧ X'.h = updH X.h id { ver := en.ver, blk := b' } ∧ X'.ρ = X.ρ ∧ Le X X' ∧ RepH X' ∧
        rowCells X'.H (X.ρ id) = rowCells X.H (X.ρ id) ∧ b'.row = some (sz, n) ∧ e + l.len ≤ n := by
    intro α β R es l' mk hn hl' hmk hrep hrow hsrc hle hb
    obtain ⟨c, ty, hc, hrow⟩ := hrow
    have hsz := (hrow X (.refl X)).2.1
    rw [hn] at hsz
    have hfit : e * sz + vs.length ≤ c.size := by
      rw [hl, ← Nat.add_mul]
      exact Nat.le_trans (Nat.mul_le_mul_right _ hle) hsz
    have hrow' : b'.row = some (sz, n) := by rw [hb, hmk, setCells_len _ _ _ (by omega), hn]
    obtain ⟨w', X', a1, a2, a3, a4, a5, a6, a7⟩ := write_row (P := P) hX hw he (en' := { ver := en.ver, blk := b' }) (Blk.row_live hr) hc hfit (hs.one hl)
      (.inr ⟨rfl, fun q hq => by rw [hr]; rw [hrow'] at hq; exact hq, fun hm => by rw [Blk.row_notMap hrow'] at hm; simp at hm⟩) (fun X' le hρ hH => by
        rw [hb]
        exact hrep X' id _ ty _ (by rw [hρ]; exact hH) (RowOK.splice (hrow X' le) (by omega) (hsrc X' le) (by rw [hl']; exact hl) (by rw [hl']; exact Nat.le_trans (Nat.mul_le_mul_right _ hle) hsz)))
    exact ⟨w', X', a1, a2, a3, a4, a5, a6, a7, hrow', hle⟩
  unfold spliceBlk at hsp
  cases hk : en.blk with
  | dead => rw [hk] at hr; simp [Blk.row] at hr
  | mp _ => rw [hk] at hr; simp [Blk.row] at hr
  | dat q sz0 es =>
    rw [hk] at hr hB hsp
    simp only [Blk.row, Option.some.injEq, Prod.mk.injEq] at hr
    obtain ⟨rfl, rfl⟩ := hr
    obtain ⟨c, ty, hc, hrow⟩ := hB
    have hrow : RowOK (RepD X.H X.Z) c sz0 es := hrow
    cases l with
    | ds l =>
      simp only [Rd.out_br, Rd.out_fail, and_false, or_false, Rd.out_ret] at hsp
      obtain ⟨hle, rfl⟩ := hsp
      exact fin (β := Unit) (fun X => RepD X.H X.Z) es l (.dat q sz0) rfl rfl (fun _ => rfl) (fun X' id c ty es h1 h2 => ⟨c, ty, h1, h2⟩)
        ⟨c, ty, hc, fun X' le => hrow.mono fun d v h => RepD.mono le.kept h⟩ (fun X' le => RowOK.mono (show RowOK (RepD X.H X.Z) vs.toArray sz0 l from hs) fun d v h => RepD.mono le.kept h) (Nat.le_of_ble_eq_true hle) rfl
    | cs l =>
      simp only [Rd.out_br, Rd.out_fail, and_false, or_false, Rd.out_ret] at hsp
      obtain ⟨hle, rfl⟩ := hsp
      exact fin (β := Unit) (fun X => RepC X) (es.map (fun x => x.map C.d)) l (.refs sz0) (by simp) rfl (fun _ => rfl) (fun X' id c ty es h1 h2 => ⟨c, ty, h1, h2⟩)
        ⟨c, ty, hc, fun X' le => (hrow.mono fun d v h => RepD.mono le.kept h).map C.d fun d v h => .d d v h⟩ (fun X' le => RowOK.mono (show RowOK (RepC X) vs.toArray sz0 l from hs) fun d v h => RepC.mono le h) (Nat.le_of_ble_eq_true hle) rfl
  | refs sz0 es =>
    rw [hk] at hr hB hsp
    simp only [Blk.row, Option.some.injEq, Prod.mk.injEq] at hr
    obtain ⟨rfl, rfl⟩ := hr
    obtain ⟨c, ty, hc, hrow⟩ := hB
    have hrow : RowOK (RepC X) c sz0 es := hrow
    cases l with
    | ds l =>
      simp only [Rd.out_br, Rd.out_fail, and_false, or_false, Rd.out_ret] at hsp
      obtain ⟨hle, rfl⟩ := hsp
      exact fin (β := Unit) (fun X => RepC X) es (l.map (fun x => x.map C.d)) (.refs sz0) rfl (by simp [Src.len]) (fun _ => rfl) (fun X' id c ty es h1 h2 => ⟨c, ty, h1, h2⟩)
        ⟨c, ty, hc, fun X' le => hrow.mono fun d v h => RepC.mono le h⟩ (fun X' le => (RowOK.mono (show RowOK (RepD X.H X.Z) vs.toArray sz0 l from hs) fun d v h => RepD.mono le.kept h).map C.d fun d v h => .d d v h) (Nat.le_of_ble_eq_true hle) rfl
    | cs l =>
      simp only [Rd.out_br, Rd.out_fail, and_false, or_false, Rd.out_ret] at hsp
      obtain ⟨hle, rfl⟩ := hsp
      exact fin (β := Unit) (fun X => RepC X) es l (.refs sz0) rfl rfl (fun _ => rfl) (fun X' id c ty es h1 h2 => ⟨c, ty, h1, h2⟩)
        ⟨c, ty, hc, fun X' le => hrow.mono fun d v h => RepC.mono le h⟩ (fun X' le => RowOK.mono (show RowOK (RepC X) vs.toArray sz0 l from hs) fun d v h => RepC.mono le h) (Nat.le_of_ble_eq_true hle) rfl

end
end Go.Ex
