/- Exec, part E: rows of cells in lists, and what writing into them comes to. -/
import Derived.Test.YtfnpmhhlhlbclaaDoorExD
namespace Go.Ex

/-- a row of cells that stands for elements -/
def RowOK {α : Type} (R : α → Value → Prop) (c : Array Value) (sz : Nat) (es : List (List α)) : Prop :=
  (∀ (i : Nat) (cs : List α), es[i]? = some cs → cs.length = sz) ∧ es.length * sz ≤ c.size ∧
  ∀ (i : Nat) (cs : List α) (j : Nat) (d : α), es[i]? = some cs → cs[j]? = some d → ∃ v, c[i * sz + j]? = some v ∧ R d v

theorem splice_get (c : Array Value) (p : Nat) (vs : List Value) (q : Nat) (h : p + vs.length ≤ c.size) :
    (c.toList.take p ++ vs ++ c.toList.drop (p + vs.length)).toArray[q]? = if q < p then c[q]? else if q < p + vs.length then vs[q - p]? else c[q]? := by
  have hp : (c.toList.take p).length = p := by rw [List.length_take]; simp; omega
  simp only [List.getElem?_toArray, List.append_assoc]
  rw [List.getElem?_append, hp]
  split
  · rename_i hq
    rw [List.getElem?_take]; simp [hq]
  · rename_i hq
    rw [List.getElem?_append]
    by_cases h2 : q - p < vs.length
    · rw [if_pos h2, if_pos (by omega)]
    · rw [if_neg h2, if_neg (by omega), List.getElem?_drop]
      rw [show p + vs.length + (q - p - vs.length) = q by omega]
      simp

theorem splice_size (c : Array Value) (p : Nat) (vs : List Value) (h : p + vs.length ≤ c.size) :
    (c.toList.take p ++ vs ++ c.toList.drop (p + vs.length)).toArray.size = c.size := by
  simp only [List.size_toArray, List.length_append, List.length_take, List.length_drop, Array.length_toList]
  omega

theorem setCells_get {α : Type} (cs : List α) (o : Nat) (l : List α) (j : Nat) (h : o + l.length ≤ cs.length) :
    (setCells cs o l)[j]? = if j < o then cs[j]? else if j < o + l.length then l[j - o]? else cs[j]? := by
  have hp : (cs.take o).length = o := by rw [List.length_take]; omega
  unfold setCells
  rw [List.append_assoc, List.getElem?_append, hp]
  split
  · rename_i hq
    rw [List.getElem?_take]; simp [hq]
  · rename_i hq
    rw [List.getElem?_append]
    by_cases h2 : j - o < l.length
    · rw [if_pos h2, if_pos (by omega)]
    · rw [if_neg h2, if_neg (by omega), List.getElem?_drop]
      rw [show o + l.length + (j - o - l.length) = j by omega]

theorem setCells_len {α : Type} (cs : List α) (o : Nat) (l : List α) (h : o + l.length ≤ cs.length) : (setCells cs o l).length = cs.length := by
  unfold setCells
  simp only [List.length_append, List.length_take, List.length_drop]
  omega

theorem mul_lt_of {i e sz j : Nat} (h : i < e) (hj : j < sz) : i * sz + j < e * sz := by
  have : (i + 1) * sz ≤ e * sz := Nat.mul_le_mul_right _ h
  rw [Nat.add_mul] at this
  omega

section
variable {α β : Type} {R : α → Value → Prop} {c : Array Value} {sz : Nat} {es : List (List α)}

theorem RowOK.mono {R' : α → Value → Prop} (h : RowOK R c sz es) (hr : ∀ d v, R d v → R' d v) : RowOK R' c sz es :=
  ⟨h.1, h.2.1, fun i cs j d a b => let ⟨v, h1, h2⟩ := h.2.2 i cs j d a b; ⟨v, h1, hr d v h2⟩⟩

theorem RowOK.map {R' : β → Value → Prop} (f : α → β) (h : RowOK R c sz es) (hr : ∀ d v, R d v → R' (f d) v) : RowOK R' c sz (es.map (·.map f)) := by
  refine ⟨fun i cs hi => ?_, by simpa using h.2.1, fun i cs j d hi hj => ?_⟩
  · rw [List.getElem?_map] at hi
    cases hx : es[i]? with
    | none => rw [hx] at hi; simp at hi
    | some x => rw [hx] at hi; simp at hi; subst hi; simpa using h.1 i x hx
  · rw [List.getElem?_map] at hi
    cases hx : es[i]? with
    | none => rw [hx] at hi; simp at hi
    | some x =>
      rw [hx] at hi
      simp at hi
      subst hi
      rw [List.getElem?_map] at hj
      cases hy : x[j]? with
      | none => rw [hy] at hj; simp at hj
      | some y =>
        rw [hy] at hj
        simp at hj
        subst hj
        obtain ⟨v, h1, h2⟩ := h.2.2 i x j y hx hy
        exact ⟨v, h1, hr y v h2⟩

/-- cells of one element written -/
theorem RowOK.set (h : RowOK R c sz es) {e o : Nat} {l : List α} {vs : List Value} (he : e < es.length) (ho : o + l.length ≤ (es.getD e []).length) (hl : vs.length = l.length)
    (hr : ∀ (j : Nat) (d : α) (v : Value), l[j]? = some d → vs[j]? = some v → R d v) :
    RowOK R (c.toList.take (e * sz + o) ++ vs ++ c.toList.drop (e * sz + o + vs.length)).toArray sz (es.set e (setCells (es.getD e []) o l)) ∧ e * sz + o + vs.length ≤ c.size := by
  have hesz : (es.getD e []).length = sz := h.1 e _ (getD_some he)
  have hfit : e * sz + o + vs.length ≤ c.size := by
    have : (e + 1) * sz ≤ es.length * sz := Nat.mul_le_mul_right _ he
    rw [Nat.add_mul] at this
    have := h.2.1
    omega
  refine ⟨⟨fun i cs hi => ?_, ?_, fun i cs j d hi hj => ?_⟩, hfit⟩
  · rw [List.getElem?_set] at hi
    by_cases hie : e = i
    · subst hie
      rw [if_pos rfl, if_pos he] at hi
      obtain rfl := Option.some.inj hi
      rw [setCells_len _ _ _ ho]; exact hesz
    · rw [if_neg hie] at hi
      exact h.1 i cs hi
  · rw [splice_size _ _ _ hfit, List.length_set]; exact h.2.1
  · rw [splice_get _ _ _ _ hfit]
    rw [List.getElem?_set] at hi
    by_cases hie : e = i
    · subst hie
      rw [if_pos rfl, if_pos he] at hi
      obtain rfl := Option.some.inj hi
      rw [setCells_get _ _ _ _ ho] at hj
      by_cases h1 : j < o
      · rw [if_pos h1] at hj
        rw [if_pos (by omega)]
        exact h.2.2 e _ j d (getD_some he) hj
      · rw [if_neg h1] at hj
        by_cases h2 : j < o + l.length
        · rw [if_pos h2] at hj
          rw [if_neg (by omega), if_pos (by omega), show e * sz + j - (e * sz + o) = j - o by omega]
          have hlt : j - o < vs.length := by omega
          exact ⟨vs[j - o], List.getElem?_eq_getElem hlt, hr (j - o) d _ hj (List.getElem?_eq_getElem hlt)⟩
        · rw [if_neg h2] at hj
          rw [if_neg (by omega), if_neg (by omega)]
          exact h.2.2 e _ j d (getD_some he) hj
    · rw [if_neg hie] at hi
      have hlen : cs.length = sz := h.1 i cs hi
      have hjl : j < sz := by rw [← hlen]; exact (List.getElem?_eq_some_iff.1 hj).1
      obtain ⟨v, h1, h2⟩ := h.2.2 i cs j d hi hj
      refine ⟨v, ?_, h2⟩
      rcases Nat.lt_or_gt_of_ne hie with hlt | hgt
      · have := mul_lt_of hlt (Nat.zero_lt_of_lt hjl)
        have h3 : (e + 1) * sz ≤ i * sz := Nat.mul_le_mul_right _ hlt
        rw [Nat.add_mul] at h3
        rw [if_neg (by omega), if_neg (by omega)]
        exact h1
      · have := mul_lt_of hgt hjl
        rw [if_pos (by omega)]
        exact h1

/-- whole elements written, from an element on; behind the last one too -/
theorem RowOK.splice (h : RowOK R c sz es) {e : Nat} {l : List (List α)} {vs : List Value} (he : e ≤ es.length) (hs : RowOK R vs.toArray sz l) (hl : vs.length = l.length * sz) (hfit : (e + l.length) * sz ≤ c.size) :
    RowOK R (c.toList.take (e * sz) ++ vs ++ c.toList.drop (e * sz + vs.length)).toArray sz (es.take e ++ l ++ es.drop (e + l.length)) := by
  have hfit' : e * sz + vs.length ≤ c.size := by rw [hl, ← Nat.add_mul]; exact hfit
  have hp : (es.take e).length = e := by rw [List.length_take]; omega
  have get : ∀ i, (es.take e ++ l ++ es.drop (e + l.length))[i]? = if i < e then es[i]? else if i < e + l.length then l[i - e]? else es[i]? := by
    intro i
    rw [List.append_assoc, List.getElem?_append, hp]
    split
    · rename_i hq
      rw [List.getElem?_take]; simp [hq]
    · rename_i hq
      rw [List.getElem?_append]
      by_cases h2 : i - e < l.length
      · rw [if_pos h2, if_pos (by omega)]
      · rw [if_neg h2, if_neg (by omega), List.getElem?_drop]
        rw [show e + l.length + (i - e - l.length) = i by omega]
  refine ⟨fun i cs hi => ?_, ?_, fun i cs j d hi hj => ?_⟩
  · rw [get] at hi
    split at hi
    · exact h.1 i cs hi
    · split at hi
      · exact hs.1 _ cs hi
      · exact h.1 i cs hi
  · rw [splice_size _ _ _ hfit']
    simp only [List.length_append, List.length_take, List.length_drop]
    by_cases hlt : e + l.length ≤ es.length
    · rw [show min e es.length + l.length + (es.length - (e + l.length)) = es.length by omega]; exact h.2.1
    · rw [show min e es.length + l.length + (es.length - (e + l.length)) = e + l.length by omega]; exact hfit
  · rw [splice_get _ _ _ _ hfit']
    rw [get] at hi
    by_cases h1 : i < e
    · rw [if_pos h1] at hi
      have hlen : cs.length = sz := h.1 i cs hi
      have hjl : j < sz := by rw [← hlen]; exact (List.getElem?_eq_some_iff.1 hj).1
      have := mul_lt_of h1 hjl
      rw [if_pos this]
      exact h.2.2 i cs j d hi hj
    · rw [if_neg h1] at hi
      have h3 : e * sz ≤ i * sz := Nat.mul_le_mul_right _ (by omega)
      by_cases h2 : i < e + l.length
      · rw [if_pos h2] at hi
        have hlen : cs.length = sz := hs.1 _ cs hi
        have hjl : j < sz := by rw [← hlen]; exact (List.getElem?_eq_some_iff.1 hj).1
        have h4 := mul_lt_of (show i - e < l.length by omega) hjl
        have h5 : i * sz = (i - e) * sz + e * sz := by rw [← Nat.add_mul]; congr 1; omega
        rw [if_neg (by omega), if_pos (by omega), show i * sz + j - e * sz = (i - e) * sz + j by omega]
        obtain ⟨v, hv, hr⟩ := hs.2.2 (i - e) cs j d hi hj
        exact ⟨v, by simpa using hv, hr⟩
      · rw [if_neg h2] at hi
        have h4 : (e + l.length) * sz ≤ i * sz := Nat.mul_le_mul_right _ (by omega)
        rw [Nat.add_mul] at h4
        rw [if_neg (by omega), if_neg (by omega)]
        exact h.2.2 i cs j d hi hj

theorem RowOK.nil : RowOK R c sz ([] : List (List α)) := ⟨by simp, by simp, by simp⟩

/-- elements of a row, from one on -/
theorem RowOK.sub (h : RowOK R c sz es) (e n : Nat) (hle : e + n ≤ es.length) : ∃ vs : List Value, vs.length = n * sz ∧ (∀ j v, vs[j]? = some v → c[e * sz + j]? = some v) ∧ RowOK R vs.toArray sz ((es.drop e).take n) := by
  have hfit : (e + n) * sz ≤ c.size := Nat.le_trans (Nat.mul_le_mul_right _ hle) h.2.1
  rw [Nat.add_mul] at hfit
  refine ⟨(c.toList.drop (e * sz)).take (n * sz), by simp; omega, fun j v hj => ?_, fun i cs hi => ?_, ?_, fun i cs j d hi hj => ?_⟩
  · rw [List.getElem?_take] at hj
    split at hj
    · rw [List.getElem?_drop] at hj; simpa using hj
    · simp at hj
  · rw [List.getElem?_take] at hi
    split at hi
    · rw [List.getElem?_drop] at hi; exact h.1 _ cs hi
    · simp at hi
  · simp only [List.size_toArray, List.length_take, List.length_drop, Array.length_toList]
    have : min n (es.length - e) = n := by omega
    rw [this]; omega
  · rw [List.getElem?_take] at hi
    split at hi
    · rename_i hin
      rw [List.getElem?_drop] at hi
      have hlen : cs.length = sz := h.1 _ cs hi
      have hjl : j < sz := by rw [← hlen]; exact (List.getElem?_eq_some_iff.1 hj).1
      obtain ⟨v, hv, hr⟩ := h.2.2 (e + i) cs j d hi hj
      refine ⟨v, ?_, hr⟩
      have := mul_lt_of hin hjl
      simp only [List.getElem?_toArray]
      rw [List.getElem?_take, if_pos this, List.getElem?_drop]
      rw [Nat.add_mul] at hv
      rw [show e * sz + (i * sz + j) = e * sz + i * sz + j by omega]
      simpa using hv
    · simp at hi
end

theorem setRow_eq (w : World) (g : Nat) (cur cs : Array Value) (t : TypeId) (fr : Nat × Nat) (hg : w.heap[g]? = some (.cells cur t fr)) :
    (w.setRow g cs).heap = w.heap.setIfInBounds g (.cells cs t fr) := by
  apply Array.ext_getElem?
  intro k
  rw [Array.getElem?_setIfInBounds]
  by_cases h : g = k
  · subst h
    have hlt := (Array.getElem?_eq_some_iff.1 hg).1
    rw [setRow_heap w g cur cs t fr hg]
    simp [hlt]
  · rw [setRow_other w g k cs (fun e => h e.symm)]
    simp [h]

/-! ### rows of the call's own -/
theorem RepB.dat_row {X : Ctx} {q : Bool} {id sz : Nat} {es : List (List D)} : RepB X id (.dat q sz es) ↔ ∃ c ty, X.H[X.ρ id]? = some (.cells c ty (0, 0)) ∧ RowOK (RepD X.H X.Z) c sz es := Iff.rfl
theorem RepB.refs_row {X : Ctx} {id sz : Nat} {es : List (List C)} : RepB X id (.refs sz es) ↔ ∃ c ty, X.H[X.ρ id]? = some (.cells c ty (0, 0)) ∧ RowOK (RepC X) c sz es := Iff.rfl

/-- a row block written in place: the new cells stand for the new block, at another version or in the same shape -/
theorem write_row {P : Program} {w : World} {X : Ctx} (hX : RepH X) (hw : w.heap = X.H) {id : Nat} {en en' : Ent} (he : X.h id = some en) (hl : en.blk.live = true)
    {c : Array Value} {ty : TypeId} (hc : X.H[X.ρ id]? = some (.cells c ty (0, 0))) {p : Nat} {vs : List Value} (hfit : p + vs.length ≤ c.size) (h1 : ∀ v ∈ vs, v.oneCell' = true)
    (hv : en.ver < en'.ver ∨ (en.ver = en'.ver ∧ (∀ q, en'.blk.row = some q → en.blk.row = some q) ∧ (en'.blk.isMap = true → en.blk.isMap = true)))
    (hB : ∀ X', Le X X' → X'.ρ = X.ρ → X'.H[X.ρ id]? = some (.cells (c.toList.take p ++ vs ++ c.toList.drop (p + vs.length)).toArray ty (0, 0)) → RepB X' id en'.blk) :
    ∃ w' X', (storeCells ⟨X.ρ id, p, none⟩ vs).run P w = .ok () w' ∧ (X'.H = w'.heap ∧ sysOf w' = sysOf w) ∧ X'.h = updH X.h id en' ∧ X'.ρ = X.ρ ∧ Le X X' ∧ RepH X' ∧
      rowCells X'.H (X.ρ id) = rowCells X.H (X.ρ id) := by
  have hw' : w.heap[X.ρ id]? = some (.cells c ty (0, 0)) := by rw [hw]; exact hc
  have hrun := run_storeCells_at P (X.ρ id) p ty vs 0 c w hw' (by omega) h1
  simp only [Nat.add_zero] at hrun
  let c' : Array Value := (c.toList.take p ++ vs ++ c.toList.drop (p + vs.length)).toArray
  have hs : c'.size = c.size := splice_size c p vs hfit
  have u := upd_write X id en en' (.cells c' ty (0, 0)) he hl hv (fun _ => ⟨c, ty, (0, 0), c', ty, (0, 0), hc, rfl, by omega⟩)
  have hat : (X.write id en' (.cells c' ty (0, 0))).H[X.ρ id]? = some (.cells c' ty (0, 0)) := by
    simp only [Ctx.write]
    rw [Array.getElem?_setIfInBounds]
    simp [(Array.getElem?_eq_some_iff.1 hc).1]
  have le := u.le hX
  refine ⟨_, X.write id en' (.cells c' ty (0, 0)), hrun, ?_, rfl, rfl, le, u.rep hX (hB _ le rfl hat), ?_⟩
  · exact ⟨by rw [setRow_eq w _ c _ ty (0, 0) hw', hw]; rfl, rfl⟩
  · simp only [rowCells, hat, hc, hs]

end Go.Ex
