/- Exec, part D: one change of memory, and what single readings and writings of the model come to. -/
import Derived.Test.YtfnpmhhlhlbclaaDoorExC
namespace Go.Ex

def updH (h : Nat → Option Ent) (id : Nat) (en : Ent) : Nat → Option Ent := fun j => if j = id then some en else h j

theorem updH_same (h : Nat → Option Ent) (id : Nat) (en : Ent) : updH h id en id = some en := by simp [updH]
theorem updH_ne (h : Nat → Option Ent) {id j : Nat} (en : Ent) (hj : j ≠ id) : updH h id en j = h j := by simp [updH, hj]

/-- one block's change -/
structure Upd (X X' : Ctx) (id : Nat) (en' : Ent) : Prop where
  hh : X'.h = updH X.h id en'
  hρ : ∀ j, j ≠ id → X'.ρ j = X.ρ j
  hF : X'.F = X.F
  hW : X'.W = X.W
  size : X.H.size ≤ X'.H.size
  keep : ∀ b, b < X.H.size → (∀ en, X.h id = some en → en.blk.live = true → X.ρ id ≠ b) → X'.H[b]? = X.H[b]?
  place : en'.blk.live = true → X.H.size ≤ X'.ρ id ∨ (∃ en, X.h id = some en ∧ en.blk.live = true ∧ X'.ρ id = X.ρ id)
  ver : ∀ en, X.h id = some en → en.ver < en'.ver ∨ (en.ver = en'.ver ∧
    (∀ q, en'.blk.row = some q → en.blk.row = some q ∧ X'.ρ id = X.ρ id ∧ rowCells X.H (X.ρ id) ≤ rowCells X'.H (X.ρ id)) ∧
    (en'.blk.isMap = true → en.blk.isMap = true ∧ X'.ρ id = X.ρ id))

theorem RepB.lt {X : Ctx} {id : Nat} {b : Blk} (h : RepB X id b) (hl : b.live = true) : X.ρ id < X.H.size := by
  cases b with
  | dead => simp [Blk.live] at hl
  | dat q sz es => obtain ⟨c, ty, h, _⟩ := h; exact (Array.getElem?_eq_some_iff.1 h).1
  | refs sz es => obtain ⟨c, ty, h, _⟩ := h; exact (Array.getElem?_eq_some_iff.1 h).1
  | mp ents => obtain ⟨c, ty, h, _⟩ := h; exact (Array.getElem?_eq_some_iff.1 h).1

theorem rowCells_of {H H' : Array Obj} {b : Nat} (h : H'[b]? = H[b]?) : rowCells H' b = rowCells H b := by unfold rowCells; rw [h]

theorem Upd.le {X X' : Ctx} {id : Nat} {en' : Ent} (u : Upd X X' id en') (hX : RepH X) : Le X X' := by
  refine ⟨u.size, fun b hb hz => ⟨u.keep b hb fun en h1 h2 => hz id en h1 h2, fun j en hj hl => ?_⟩, u.hF, u.hW, fun j en hj => ?_⟩
  · by_cases e : j = id
    · subst e
      rw [u.hh, updH_same] at hj
      obtain rfl := Option.some.inj hj
      rcases u.place hl with h | ⟨en0, h0, l0, h1⟩
      · omega
      · rw [h1]; exact hz j en0 h0 l0
    · rw [u.hh, updH_ne _ _ e] at hj
      rw [u.hρ j e]
      exact hz j en hj hl
  · by_cases e : j = id
    · subst e
      refine ⟨en', by rw [u.hh, updH_same], ?_, fun hv => ?_⟩
      · rcases u.ver en hj with h | h <;> omega
      · rcases u.ver en hj with h | ⟨_, h1, h2⟩
        · omega
        · exact ⟨h1, h2⟩
    · refine ⟨en, by rw [u.hh, updH_ne _ _ e]; exact hj, Nat.le_refl _, fun _ => ⟨fun q hq => ⟨hq, u.hρ j e, ?_⟩, fun hm => ⟨hm, u.hρ j e⟩⟩⟩
      have hl : en.blk.live = true := by cases hb : en.blk <;> simp [hb, Blk.row, Blk.live] at hq ⊢
      have hlt := (hX.blk j en hj).lt hl
      have := u.keep (X.ρ j) hlt fun en0 h0 l0 he => e (hX.inj id en0 j en h0 hj l0 hl he).symm
      rw [rowCells_of this]
      exact Nat.le_refl _

theorem RepB.mono {X X' : Ctx} (l : Le X X') {id : Nat} {b : Blk} (hρ : X'.ρ id = X.ρ id) (hH : b.live = true → X'.H[X.ρ id]? = X.H[X.ρ id]?) (h : RepB X id b) : RepB X' id b := by
  cases b with
  | dead => trivial
  | dat q sz es =>
    obtain ⟨c, ty, h1, h2, h3, h4⟩ := h
    refine ⟨c, ty, by rw [hρ, hH rfl]; exact h1, h2, h3, fun i cs j d a b => ?_⟩
    obtain ⟨v, hv, hr⟩ := h4 i cs j d a b
    exact ⟨v, hv, hr.mono l.kept⟩
  | refs sz es =>
    obtain ⟨c, ty, h1, h2, h3, h4⟩ := h
    refine ⟨c, ty, by rw [hρ, hH rfl]; exact h1, h2, h3, fun i cs j d a b => ?_⟩
    obtain ⟨v, hv, hr⟩ := h4 i cs j d a b
    exact ⟨v, hv, hr.mono l⟩
  | mp ents =>
    obtain ⟨es, clock, h1, h2, h3⟩ := h
    refine ⟨es, clock, by rw [hρ, hH rfl]; exact h1, h2, fun i k t a => ?_⟩
    obtain ⟨e, he, hk, hr⟩ := h3 i k t a
    exact ⟨e, he, hk, hr.mono l⟩

theorem Upd.rep {X X' : Ctx} {id : Nat} {en' : Ent} (u : Upd X X' id en') (hX : RepH X) (hb : RepB X' id en'.blk) : RepH X' := by
  have l := u.le hX
  have other : ∀ j en, j ≠ id → X.h j = some en → en.blk.live = true → X'.H[X.ρ j]? = X.H[X.ρ j]? := fun j en e hj hl =>
    u.keep (X.ρ j) ((hX.blk j en hj).lt hl) fun en0 h0 l0 he => e (hX.inj id en0 j en h0 hj l0 hl he).symm
  refine ⟨fun j en hj => ?_, fun i en i' en1 hi hi' li li' he => ?_, fun j en hj hl => ?_, fun b hb => by rw [u.hF] at hb; exact Nat.lt_of_lt_of_le (hX.far b hb) u.size⟩
  · by_cases e : j = id
    · subst e
      rw [u.hh, updH_same] at hj
      obtain rfl := Option.some.inj hj
      exact hb
    · rw [u.hh, updH_ne _ _ e] at hj
      exact (hX.blk j en hj).mono l (u.hρ j e) fun hl => other j en e hj hl
  · have lts : ∀ j en, j ≠ id → X.h j = some en → en.blk.live = true → X.ρ j < X.H.size := fun j en _ hj hl => (hX.blk j en hj).lt hl
    by_cases e : i = id <;> by_cases e' : i' = id
    · exact e.trans e'.symm
    · subst e
      rw [u.hh, updH_same] at hi
      rw [u.hh, updH_ne _ _ e'] at hi'
      obtain rfl := Option.some.inj hi
      rw [u.hρ i' e'] at he
      have hlt := lts i' en1 e' hi' li'
      rcases u.place li with h | ⟨en0, h0, l0, h1⟩
      · omega
      · exact hX.inj i en0 i' en1 h0 hi' l0 li' (h1.symm.trans he)
    · subst e'
      rw [u.hh, updH_same] at hi'
      rw [u.hh, updH_ne _ _ e] at hi
      obtain rfl := Option.some.inj hi'
      rw [u.hρ i e] at he
      have hlt := lts i en e hi li
      rcases u.place li' with h | ⟨en0, h0, l0, h1⟩
      · omega
      · exact hX.inj i en i' en0 hi h0 li l0 (he.trans h1)
    · rw [u.hh, updH_ne _ _ e] at hi
      rw [u.hh, updH_ne _ _ e'] at hi'
      rw [u.hρ i e, u.hρ i' e'] at he
      exact hX.inj i en i' en1 hi hi' li li' he
  · rw [u.hF]
    by_cases e : j = id
    · subst e
      rw [u.hh, updH_same] at hj
      obtain rfl := Option.some.inj hj
      rcases u.place hl with h | ⟨en0, h0, l0, h1⟩
      · exact fun hf => by have := hX.far _ hf; omega
      · rw [h1]; exact hX.own j en0 h0 l0
    · rw [u.hh, updH_ne _ _ e] at hj
      rw [u.hρ j e]
      exact hX.own j en hj hl

/-! ### the three changes -/
def Ctx.alloc (X : Ctx) (id : Nat) (en : Ent) (o : Obj) : Ctx := { H := X.H.push o, h := updH X.h id en, ρ := fun j => if j = id then X.H.size else X.ρ j, F := X.F, W := X.W }

theorem getElem?_push_lt' {H : Array Obj} {o : Obj} {b : Nat} (h : b < H.size) : (H.push o)[b]? = H[b]? := by
  rw [Array.getElem?_push]; simp [Nat.ne_of_lt h]
theorem getElem?_push_at {H : Array Obj} {o : Obj} : (H.push o)[H.size]? = some o := by
  rw [Array.getElem?_push]; simp

theorem upd_alloc (X : Ctx) (id : Nat) (en' : Ent) (o : Obj) (hv : ∀ en, X.h id = some en → en.ver < en'.ver) : Upd X (X.alloc id en' o) id en' where
  hh := rfl
  hρ j hj := by simp [Ctx.alloc, hj]
  hF := rfl
  hW := rfl
  size := by simp [Ctx.alloc]
  keep b hb _ := getElem?_push_lt' hb
  place _ := .inl (by simp [Ctx.alloc])
  ver en h := .inl (hv en h)

def Ctx.write (X : Ctx) (id : Nat) (en : Ent) (o : Obj) : Ctx := { H := X.H.setIfInBounds (X.ρ id) o, h := updH X.h id en, ρ := X.ρ, F := X.F, W := X.W }

/-- the block of an id is written: another version, or the same shape -/
theorem upd_write (X : Ctx) (id : Nat) (en en' : Ent) (o : Obj) (he : X.h id = some en) (hl : en.blk.live = true)
    (hv : en.ver < en'.ver ∨ (en.ver = en'.ver ∧ (∀ q, en'.blk.row = some q → en.blk.row = some q) ∧ (en'.blk.isMap = true → en.blk.isMap = true)))
    (hs : en'.blk.row ≠ none → ∃ c ty fr c' ty' fr', X.H[X.ρ id]? = some (.cells c ty fr) ∧ o = .cells c' ty' fr' ∧ c.size ≤ c'.size) : Upd X (X.write id en' o) id en' where
  hh := rfl
  hρ j _ := rfl
  hF := rfl
  hW := rfl
  size := by simp [Ctx.write]
  keep b _ hb := by
    have := hb en he hl
    simp only [Ctx.write]
    rw [Array.getElem?_setIfInBounds]
    simp [this]
  place _ := .inr ⟨en, he, hl, rfl⟩
  ver en0 h0 := by
    rw [he] at h0
    obtain rfl := Option.some.inj h0
    rcases hv with h | ⟨h, h1, h2⟩
    · exact .inl h
    · refine .inr ⟨h, fun q hq => ⟨h1 q hq, rfl, ?_⟩, fun hm => ⟨h2 hm, rfl⟩⟩
      obtain ⟨c, ty, fr, c', ty', fr', e1, rfl, e3⟩ := hs (by rw [hq]; simp)
      have hlt := (Array.getElem?_eq_some_iff.1 e1).1
      have e4 : (X.write id en' (.cells c' ty' fr')).H[X.ρ id]? = some (.cells c' ty' fr') := by
        simp only [Ctx.write]; rw [Array.getElem?_setIfInBounds]; simp [hlt]
      simp only [rowCells, e1, e4]
      exact e3

def Ctx.kill (X : Ctx) (id : Nat) (ver : Nat) : Ctx := { X with h := updH X.h id { ver, blk := .dead } }
theorem upd_kill (X : Ctx) (id : Nat) (en : Ent) (he : X.h id = some en) : Upd X (X.kill id en.ver) id { ver := en.ver, blk := .dead } where
  hh := rfl
  hρ _ _ := rfl
  hF := rfl
  hW := rfl
  size := Nat.le_refl _
  keep _ _ _ := rfl
  place h := by simp [Blk.live] at h
  ver en0 h0 := by
    rw [he] at h0
    obtain rfl := Option.some.inj h0
    exact .inr ⟨rfl, fun q hq => by simp [Blk.row] at hq, fun hm => by simp [Blk.isMap] at hm⟩

/-! ### the model's own readings -/
section
variable {P : Program} {w : World}

theorem run_isAgg {t : TypeId} {b : Bool} (h : isAgg? P t = some b) : (isAgg t).run P w = .ok b w := by
  unfold isAgg? at h
  cases hu : P.underlying t with
  | none => rw [hu] at h; simp at h
  | some d => rw [hu] at h; cases d <;> simp at h <;> subst h <;> simp [isAgg, run_underlying hu]

theorem run_sizeOf {t : TypeId} {n : Nat} (h : sizeOf? P t = some n) : (sizeOf t).run P w = .ok n w := by
  unfold sizeOf? at h
  cases hi : P.info? t with
  | none => rw [hi] at h; simp at h
  | some i => rw [hi] at h; simp at h; subst h; simp [sizeOf, typeInfo, hi]

theorem exists_list {α : Type} {Q : Nat → α → Prop} : ∀ (n : Nat), (∀ j, j < n → ∃ v, Q j v) → ∃ l : List α, l.length = n ∧ ∀ (j : Nat) (v : α), l[j]? = some v → Q j v
  | 0, _ => ⟨[], rfl, by simp⟩
  | n + 1, h => by
    obtain ⟨l, hl, hq⟩ := exists_list n fun j hj => h j (by omega)
    obtain ⟨v, hv⟩ := h n (by omega)
    refine ⟨l ++ [v], by simp [hl], fun j u hu => ?_⟩
    rw [List.getElem?_append] at hu
    split at hu
    · exact hq j u hu
    · rename_i hj
      have : j - l.length = 0 := by
        rcases Nat.eq_zero_or_pos (j - l.length) with h | h
        · exact h
        · rw [List.getElem?_eq_none (by simp; omega)] at hu; simp at hu
      rw [this] at hu
      simp at hu
      subst hu
      rwa [show j = n by omega]

theorem run_loadVar_agg {t : TypeId} {b off n : Nat} (ha : isAgg? P t = some true) (hs : sizeOf? P t = some n) (vs : List Value) (hl : vs.length = n)
    (h : ∀ (j : Nat) (v : Value), vs[j]? = some v → cellAt w.heap b (off + j) = some v) : (loadVar t ⟨b, off, none⟩).run P w = .ok (.agg vs.toArray) w := by
  have := run_loadCells_list (P := P) w ⟨b, off, none⟩ vs (fun j v hv => by rw [Addr.add_lit, cell?_eq]; exact h j v hv)
  rw [hl] at this
  simp [loadVar, run_isAgg ha, run_sizeOf hs, this]

theorem run_loadVar_one {t : TypeId} {b off : Nat} {v : Value} (ha : isAgg? P t = some false) (h : cellAt w.heap b off = some v) : (loadVar t ⟨b, off, none⟩).run P w = .ok v w := by
  simp [loadVar, run_isAgg ha, cell?_eq, h]

/-- cells that stand for references, read at a type -/
theorem valueOf_sound {X : Ctx} (hw : w.heap = X.H) {t : TypeId} {agg : Bool} {size : Nat} (ha : isAgg? P t = some agg) (hs : sizeOf? P t = some size) {b off : Nat} {cs : List C}
    (hc : ∀ (j : Nat) (d : C), cs[j]? = some d → ∃ v, cellAt X.H b (off + j) = some v ∧ RepC X d v) {r : T} (h : (valueOf agg size cs).Out X.h r) :
    ∃ v, (loadVar t ⟨b, off, none⟩).run P w = .ok v w ∧ RepT X r v := by
  cases agg with
  | true =>
    simp only [valueOf, Rd.out_br, Rd.out_ret, Rd.out_fail, and_false, or_false] at h
    obtain ⟨hle, rfl⟩ := h
    have hle := Nat.le_of_ble_eq_true hle
    obtain ⟨vs, hl, hv⟩ := exists_list (Q := fun j v => ∃ d, cs[j]? = some d ∧ cellAt X.H b (off + j) = some v ∧ RepC X d v) size fun j hj => by
      obtain ⟨v, h1, h2⟩ := hc j cs[j] (List.getElem?_eq_getElem (by omega))
      exact ⟨v, cs[j], List.getElem?_eq_getElem (by omega), h1, h2⟩
    refine ⟨_, run_loadVar_agg ha hs vs hl fun j v h => ?_, .agg _ vs ?_ fun j d v h1 h2 => ?_⟩
    · obtain ⟨_, _, h2, _⟩ := hv j v h; rw [hw]; exact h2
    · rw [hl, List.length_take]; omega
    · obtain ⟨d', h3, _, h4⟩ := hv j v h2
      rw [List.getElem?_take] at h1
      split at h1
      · rw [h3] at h1; obtain rfl := Option.some.inj h1; exact h4
      · simp at h1
  | false =>
    cases cs with
    | nil => simp [valueOf] at h
    | cons d rest =>
      simp only [valueOf, Rd.out_ret] at h
      subst h
      obtain ⟨v, h1, h2⟩ := hc 0 d rfl
      exact ⟨v, run_loadVar_one ha (by rw [hw]; exact h1), .one _ _ h2⟩

theorem valueOfD_out {h : Nat → Option Ent} {agg : Bool} {size : Nat} {cs : List D} {r : T} (hr : (valueOfD agg size cs).Out h r) : (valueOf agg size (cs.map .d)).Out h r := by
  cases agg with
  | true => simpa [valueOfD, valueOf, List.map_take] using hr
  | false => cases cs with
    | nil => simp [valueOfD] at hr
    | cons d r => simpa [valueOfD, valueOf] using hr

theorem valueOfD_sound {X : Ctx} (hw : w.heap = X.H) {t : TypeId} {agg : Bool} {size : Nat} (ha : isAgg? P t = some agg) (hs : sizeOf? P t = some size) {b off : Nat} {cs : List D}
    (hc : ∀ (j : Nat) (d : D), cs[j]? = some d → ∃ v, cellAt X.H b (off + j) = some v ∧ RepD X.H X.Z d v) {r : T} (h : (valueOfD agg size cs).Out X.h r) :
    ∃ v, (loadVar t ⟨b, off, none⟩).run P w = .ok v w ∧ RepT X r v := by
  refine valueOf_sound hw ha hs (cs := cs.map .d) (fun j d hd => ?_) (valueOfD_out h)
  rw [List.getElem?_map] at hd
  cases hx : cs[j]? with
  | none => rw [hx] at hd; simp at hd
  | some d0 =>
    rw [hx] at hd
    simp at hd
    subst hd
    obtain ⟨v, h1, h2⟩ := hc j d0 hx
    exact ⟨v, h1, .d _ _ h2⟩
end

/-- the block of a reference that is read -/
theorem block_out {h : Nat → Option Ent} {id ver : Nat} {b : Blk} (hb : (block id ver).Out h b) : ∃ en, h id = some en ∧ en.ver = ver ∧ en.blk = b := by
  unfold block at hb
  rw [Rd.out_get] at hb
  cases he : h id with
  | none => rw [he] at hb; simp at hb
  | some en =>
    rw [he] at hb
    cases hv : Nat.beq en.ver ver with
    | true => simp [hv] at hb; exact ⟨en, rfl, Nat.eq_of_beq_eq_true hv, hb⟩
    | false => simp [hv] at hb

theorem getD_some {α : Type} {es : List (List α)} {e : Nat} (h : e < es.length) : es[e]? = some (es.getD e []) := by
  simp [List.getD, List.getElem?_eq_getElem h]

/-- a cell of an element of a block -/
theorem RepB.dat_cell {X : Ctx} {q : Bool} {id sz : Nat} {es : List (List D)} (h : RepB X id (.dat q sz es)) {e o : Nat} (he : e < es.length) {j : Nat} {d : D} (hj : ((es.getD e []).drop o)[j]? = some d) :
    ∃ v, cellAt X.H (X.ρ id) (e * sz + o + j) = some v ∧ RepD X.H X.Z d v := by
  obtain ⟨c, ty, h1, h2, h3, h4⟩ := h
  rw [List.getElem?_drop] at hj
  obtain ⟨v, hv, hr⟩ := h4 e _ (o + j) d (getD_some he) hj
  exact ⟨v, by simp only [cellAt, h1]; rw [Nat.add_assoc]; exact hv, hr⟩
theorem RepB.refs_cell {X : Ctx} {id sz : Nat} {es : List (List C)} (h : RepB X id (.refs sz es)) {e o : Nat} (he : e < es.length) {j : Nat} {d : C} (hj : ((es.getD e []).drop o)[j]? = some d) :
    ∃ v, cellAt X.H (X.ρ id) (e * sz + o + j) = some v ∧ RepC X d v := by
  obtain ⟨c, ty, h1, h2, h3, h4⟩ := h
  rw [List.getElem?_drop] at hj
  obtain ⟨v, hv, hr⟩ := h4 e _ (o + j) d (getD_some he) hj
  exact ⟨v, by simp only [cellAt, h1]; rw [Nat.add_assoc]; exact hv, hr⟩

theorem loadR_sound {P : Program} {w : World} {X : Ctx} (hX : RepH X) (hw : w.heap = X.H) {t : TypeId} {agg : Bool} {size : Nat} (ha : isAgg? P t = some agg) (hs : sizeOf? P t = some size)
    {x : T} {va : Value} (hx : RepT X x va) {r : T} (h : (loadR agg size x).Out X.h r) : ∃ v, (Instr.loadAt t va).run P w = .ok v w ∧ RepT X r v := by
  unfold loadR at h
  split at h
  · rename_i id ver e o
    rw [Rd.out_bind] at h
    obtain ⟨b, hb, h⟩ := h
    obtain ⟨en, he, hv, rfl⟩ := block_out hb
    cases hx with | one _ _ hx =>
    cases hx with | ptr _ _ _ _ en' _ h1 hh hv' hp =>
    rw [he] at hh
    obtain rfl := Option.some.inj hh
    have hB := hX.blk id en he
    cases hk : en.blk with
    | dead => rw [hk] at h; simp at h
    | mp _ => rw [hk] at h; simp at h
    | dat q sz es =>
      rw [hk] at h hB hp
      cases q with
      | false =>
        simp only [Rd.out_br, Rd.out_fail, and_false, or_false] at h
        obtain ⟨hlt, h⟩ := h
        have hlt : e < es.length := by simpa [Nat.blt_eq] using hlt
        rw [hp hv.symm sz es.length rfl]
        simp only [Instr.loadAt, Instr.sureAddr, Sem.run_bind, Sem.run_pure, Result.andThen]
        exact valueOfD_sound hw ha hs (fun j d hj => hB.dat_cell hlt hj) h
      | true =>
        simp only [Rd.out_br, Rd.out_fail, and_false, or_false] at h
        obtain ⟨hlt, h⟩ := h
        have hlt : e < es.length := by simpa [Nat.blt_eq] using hlt
        rw [hp hv.symm sz es.length rfl]
        simp only [Instr.loadAt, Instr.sureAddr, Sem.run_bind, Sem.run_pure, Result.andThen]
        cases agg with
        | true =>
          simp only at h
          cases ho : Nat.beq o 0 with
          | false => rw [ho] at h; simp at h
          | true =>
            cases hz : Nat.beq size sz with
            | false => rw [ho, hz] at h; simp at h
            | true =>
              rw [ho, hz] at h
              simp only [Rd.out_ret] at h
              subst h
              obtain rfl := Nat.eq_of_beq_eq_true ho
              obtain rfl := Nat.eq_of_beq_eq_true hz
              obtain ⟨c, ty, h1', h2, h3, h4⟩ := hB
              have hrow := h2 e _ (getD_some hlt)
              have key : (valueOfD true size ((es.getD e []).drop 0)).Out X.h (.agg (((es.getD e [])).map .d)) := by
                simp only [valueOfD, List.drop_zero, Rd.out_br, Rd.out_ret, Rd.out_fail, and_false, or_false]
                refine ⟨Nat.ble_eq_true_of_le (by omega), ?_⟩
                rw [List.take_of_length_le (by omega)]
              obtain ⟨v, r1, r2⟩ := valueOfD_sound hw ha hs (fun j d hj => (show RepB X id (.dat true size es) from ⟨c, ty, h1', h2, h3, h4⟩).dat_cell hlt hj) key
              refine ⟨v, r1, ?_⟩
              cases r2 with | agg _ vs hl hr =>
              refine .aggd _ vs (by simpa using hl) fun j d u a b => ?_
              have := hr j (.d d) u (by rw [List.getElem?_map, a]; rfl) b
              cases this with | d _ _ h => exact h
        | false =>
          simp only [Rd.out_br, Rd.out_fail, and_false, or_false, Rd.out_ret] at h
          obtain ⟨ho, rfl⟩ := h
          have ho : o < (es.getD e []).length := by simpa [Nat.blt_eq] using ho
          have hd : ((es.getD e []).drop o)[0]? = some ((es.getD e []).getD o (.v (.bool false))) := by
            rw [List.getElem?_drop, Nat.add_zero]
            generalize es.getD e [] = l at ho
            simp [List.getD, ho]
          obtain ⟨v, h1', h2⟩ := hB.dat_cell hlt hd
          exact ⟨v, run_loadVar_one ha (by rw [hw]; exact h1'), .one _ _ (.d _ _ h2)⟩
    | refs sz es =>
      rw [hk] at h hB hp
      simp only [Rd.out_br, Rd.out_fail, and_false, or_false] at h
      obtain ⟨hlt, h⟩ := h
      have hlt : e < es.length := by simpa [Nat.blt_eq] using hlt
      rw [hp hv.symm sz es.length rfl]
      simp only [Instr.loadAt, Instr.sureAddr, Sem.run_bind, Sem.run_pure, Result.andThen]
      exact valueOf_sound hw ha hs (fun j d hj => hB.refs_cell hlt hj) h
  · rename_i cs
    cases hx with | one _ _ hx =>
    cases hx with | d _ _ hx =>
    cases hx with | pro _ b off g hb hc hr =>
    simp only [Instr.loadAt, Instr.sureAddr, Sem.run_bind, Sem.run_pure, Result.andThen]
    exact valueOfD_sound hw ha hs (fun j d hj => ⟨g j, hc j d hj, hr j d hj⟩) h
  · simp at h

end Go.Ex
