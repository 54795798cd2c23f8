/- Exec, part J: make, literals of slices and structs, slicing, addresses. -/
import Derived.Test.YtfnpmhhlhlbclaaDoorExI
namespace Go.Ex

section
variable {P : Program} {X : Ctx} {w : World}

theorem madeCells_get (z : Array Value) (n k : Nat) (h : k < n) : (madeCells z n)[k]? = some z[k % z.size]! := by
  unfold madeCells
  rw [Array.getElem?_map, Array.getElem?_range, if_pos h]
  rfl

theorem zeros_row {zv : Array Value} (h1 : ∀ x ∈ zv.toList, x.oneCell' = true) {sz : Nat} (hs : zv.size = sz) (n : Nat) : RowOK (RepD X.H X.Z) (madeCells zv (n * sz)) sz (List.replicate n (zv.toList.map D.v)) := by
  refine ⟨fun i cs hi => ?_, by simp [size_madeCells], fun i cs j d hi hj => ?_⟩
  · rw [List.getElem?_replicate] at hi
    split at hi
    · simp at hi; subst hi; simp [hs]
    · simp at hi
  · rw [List.getElem?_replicate] at hi
    split at hi
    · rename_i hin
      simp at hi
      subst hi
      obtain ⟨v, hv1, hr1⟩ := vals_row (X := X) h1 j d hj
      have hjl : j < sz := by have := (List.getElem?_eq_some_iff.1 hv1).1; simpa [hs] using this
      refine ⟨v, ?_, hr1⟩
      rw [madeCells_get _ _ _ (mul_lt_of hin hjl), hs, Nat.mul_comm, Nat.mul_add_mod, Nat.mod_eq_of_lt hjl]
      have hjz : j < zv.size := by omega
      rw [show zv[j]! = zv[j] from getElem!_pos zv j hjz]
      have : zv.toList[j]? = some zv[j] := by simp [hjz]
      rw [this] at hv1
      exact hv1
    · simp at hi

theorem makeSlice_ok (hX : RepH X) (hw : w.heap = X.H) {site : Nat} {t e : TypeId} {i : TypeInfo} {z : List D} {lt ct : T} {lv cv : Value} {l c : Int} (ht : slElem? P t = some e) (hi : P.info? e = some i) (hz : zeroCs P e = some z)
    (hl : intOf? lt = some l) (hc : intOf? ct = some c) (hlt : RepT X lt lv) (hct : RepT X ct cv) (hzl : Nat.beq z.length i.size = true)
    (h1 : 0 ≤ l) (h2 : l ≤ c) (h3 : c ≤ 281474976710656) (h4 : (i.bytes : Int) * c ≤ 281474976710656) :
    OpOK P X w (do pure (.value (← Instr.makeSlice t lv cv))) { val := .one (madeRef (decide (l = c)) site (nextVer (X.h site)) l.toNat), ws := [(site, { ver := nextVer (X.h site), blk := .dat false i.size (List.replicate c.toNat z) })] } := by
  obtain ⟨kl, rfl⟩ := intOf_eq hl hlt
  obtain ⟨kc, rfl⟩ := intOf_eq hc hct
  obtain ⟨zv, hzv, rfl, ho⟩ := zeroCs_ok hz
  have hzv := zero_of hzv hi
  have hzs := Nat.eq_of_beq_eq_true hzl
  simp only [List.length_map, Array.length_toList] at hzs
  have hrun := run_make (P := P) w t e i zv (slElem_eq ht) hi hzv kl kc l c h1 h2 h4 (by omega)
  refine new_ok (t := fun n => .one (madeRef (decide (l = c)) site n l.toNat)) hX (o := .cells (madeCells zv.cells (c.toNat * i.size)) e) hrun ⟨by simp [World.alloc, hw], rfl⟩ (fun X' le hρ hH => ⟨_, e, by rw [hρ]; exact hH, zeros_row ho hzs _⟩) (fun X' le hρ hH hh => ?_)
  have hrc : rowCells X'.H X.H.size = c.toNat * i.size := by simp [rowCells, hH, size_madeCells]
  rw [hw]
  by_cases hlc : l = c
  · subst hlc
    simp only [decide_true, madeRef]
    exact own_new (sz := i.size) (n := l.toNat) hρ hh (by simp [Blk.row]) (Nat.le_refl _) (by rw [hrc]; exact Nat.le_refl _)
  · simp only [hlc, decide_false, madeRef]
    refine .one _ _ (.sl _ _ _ _ _ _ rfl hh (Nat.le_refl _) fun _ sz n hq => ?_)
    simp [Blk.row] at hq
    obtain ⟨rfl, rfl⟩ := hq
    exact ⟨0, c.toNat, by rw [hρ], by omega, by omega, by rw [hρ, hrc]; simp, .inl (by simp)⟩

/-! ### parts laid into cells -/
/-- values stand for cells, one by one -/
def CellsOK (R : C → Value → Prop) (cs : List C) (vs : List Value) : Prop := vs.length = cs.length ∧ ∀ (j : Nat) (c : C) (v : Value), cs[j]? = some c → vs[j]? = some v → R c v

theorem foldl_set_get (vs : List Value) : ∀ (k off : Nat) (cells : Array Value) (q : Nat), off + k + vs.length ≤ cells.size →
    ((vs.zipIdx k).foldl (fun cs (x : Value × Nat) => cs.setIfInBounds (off + x.2) x.1) cells)[q]? = if off + k ≤ q ∧ q < off + k + vs.length then vs[q - (off + k)]? else cells[q]? := by
  induction vs with
  | nil => intro k off cells q _; simp; intro h1 h2; omega
  | cons v rest ih =>
    intro k off cells q h
    simp only [List.zipIdx_cons, List.foldl_cons]
    rw [ih (k + 1) off _ q (by simp at h ⊢; omega)]
    simp only [List.length_cons] at h ⊢
    by_cases h1 : off + k = q
    · subst h1
      rw [if_neg (by omega), if_pos (by omega), Array.getElem?_setIfInBounds]
      simp
      omega
    · by_cases h2 : off + (k + 1) ≤ q ∧ q < off + (k + 1) + rest.length
      · rw [if_pos h2, if_pos (by omega), show q - (off + k) = q - (off + (k + 1)) + 1 by omega]
        simp
      · rw [if_neg h2, if_neg (by omega), Array.getElem?_setIfInBounds]
        simp [h1]

theorem foldl_set_size (vs : List (Value × Nat)) (off : Nat) : ∀ (cells : Array Value), (vs.foldl (fun cs (x : Value × Nat) => cs.setIfInBounds (off + x.2) x.1) cells).size = cells.size := by
  induction vs with
  | nil => intro cells; rfl
  | cons v rest ih => intro cells; simp only [List.foldl_cons]; rw [ih]; simp

theorem fill_ok {place : Nat → Option (Nat × Nat)} : ∀ {parts : List (Nat × T)} {vals : List (Nat × Value)} {cells : List C} {cs : List C} {vs : Array Value},
    fillC place cells parts = some cs → vals.length = parts.length → (∀ (j : Nat) (p : Nat × T) (q : Nat × Value), parts[j]? = some p → vals[j]? = some q → p.1 = q.1 ∧ RepT X p.2 q.2) → CellsOK (RepC X) cells vs.toList →
    ∃ out, Instr.fill place vs vals = some out ∧ CellsOK (RepC X) cs out.toList
  | [], vals, cells, cs, vs, h, hl, _, hc => by
    simp [fillC] at h
    subst h
    have : vals = [] := List.eq_nil_of_length_eq_zero hl
    subst this
    exact ⟨vs, rfl, hc⟩
  | (i, t) :: rest, vals, cells, cs, vs, h, hl, hr, hc => by
    cases vals with
    | nil => simp at hl
    | cons q vals =>
      obtain ⟨i', v⟩ := q
      obtain ⟨hi, hv⟩ := hr 0 (i, t) (i', v) rfl rfl
      simp only at hi hv
      subst hi
      simp only [fillC] at h
      cases hp : place i with
      | none => rw [hp] at h; simp at h
      | some p =>
        obtain ⟨off, n⟩ := p
        cases ht : cellsT t with
        | none => rw [hp, ht] at h; simp at h
        | some tc =>
          rw [hp, ht] at h
          simp only at h
          cases h1 : Nat.beq tc.length n with
          | false => rw [h1] at h; simp at h
          | true =>
            cases h2 : Nat.ble (off + n) cells.length with
            | false => rw [h1, h2] at h; simp at h
            | true =>
              rw [h1, h2] at h
              simp only at h
              have h1 := Nat.eq_of_beq_eq_true h1
              have h2 := Nat.le_of_ble_eq_true h2
              obtain ⟨a1, a2, _⟩ := cellsT_ok ht hv
              have hsz : v.cells.size = n := by rw [← h1, ← a1]; simp
              have hlen : vs.size = cells.length := by have := hc.1; simpa using this
              let vs' := v.cells.zipIdx.foldl (fun cs (x : Value × Nat) => cs.setIfInBounds (off + x.2) x.1) vs
              have hfold : vs' = (v.cells.toList.zipIdx 0).foldl (fun cs (x : Value × Nat) => cs.setIfInBounds (off + x.2) x.1) vs := by
                simp only [vs']
                rw [← Array.foldl_toList]
                congr 1
                simp
              have hget : ∀ q, vs'[q]? = if off ≤ q ∧ q < off + v.cells.toList.length then v.cells.toList[q - off]? else vs[q]? := by
                intro q
                rw [hfold, foldl_set_get _ 0 off vs q (by simp; omega)]
                simp
              have hsize : vs'.size = vs.size := by rw [hfold, foldl_set_size]
              obtain ⟨out, b1, b2⟩ := fill_ok (vs := vs') h (by simpa using hl) (fun j p q x y => hr (j + 1) p q (by simpa using x) (by simpa using y)) ⟨by
                  have := setCells_len cells off tc (by omega)
                  simp only [Array.length_toList]
                  omega, fun j c u hj hu => by
                  rw [setCells_get _ _ _ _ (by omega)] at hj
                  have hu' : vs'[j]? = some u := by simpa using hu
                  rw [hget] at hu'
                  by_cases c1 : j < off
                  · rw [if_pos c1] at hj
                    rw [if_neg (by omega)] at hu'
                    exact hc.2 j c u hj (by simpa using hu')
                  · rw [if_neg c1] at hj
                    by_cases c2 : j < off + tc.length
                    · rw [if_pos c2] at hj
                      rw [if_pos (by omega)] at hu'
                      exact a2 (j - off) c u hj hu'
                    · rw [if_neg c2] at hj
                      rw [if_neg (by omega)] at hu'
                      exact hc.2 j c u hj (by simpa using hu')⟩
              refine ⟨out, ?_, b2⟩
              unfold Instr.fill
              simp only [hp]
              rw [if_neg (by simp; omega)]
              exact b1

theorem parts_ok {E : Env} {tm : Nat → T} {a : Act} (ha : ∀ x, RepT X (evO E tm x) (a.eval x)) (parts : Array (Nat × Operand)) :
    ((parts.map fun (i, x) => (i, a.eval x)).toList).length = (parts.toList.map fun (i, x) => (i, evO E tm x)).length ∧
    ∀ (j : Nat) (p : Nat × T) (q : Nat × Value), (parts.toList.map fun (i, x) => (i, evO E tm x))[j]? = some p → ((parts.map fun (i, x) => (i, a.eval x)).toList)[j]? = some q → p.1 = q.1 ∧ RepT X p.2 q.2 := by
  refine ⟨by simp, fun j p q hp hq => ?_⟩
  simp only [Array.toList_map, List.getElem?_map] at hp hq
  cases hx : parts.toList[j]? with
  | none => rw [hx] at hp; simp at hp
  | some y =>
    rw [hx] at hp hq
    simp at hp hq
    subst hp hq
    exact ⟨rfl, ha y.2⟩

theorem vals_cells {zv : List Value} (h1 : ∀ x ∈ zv, x.oneCell' = true) : CellsOK (RepC X) ((zv.map D.v).map C.d) zv := by
  refine ⟨by simp, fun j c v hj hv => ?_⟩
  rw [List.map_map, List.getElem?_map, hv] at hj
  simp at hj
  subst hj
  exact .d _ _ (.v v (h1 v (List.mem_of_getElem? hv)))

theorem CellsOK.agg {cs : List C} {vs : Array Value} (h : CellsOK (RepC X) cs vs.toList) : RepT X (.agg cs) (.agg vs) := by
  have := RepT.agg (X := X) cs vs.toList h.1 h.2
  simpa using this

theorem run_mapM_places : ∀ {fields : List Field}, fields.all (fun f => (sizeOf? P f.type).isSome) = true →
    ∃ l : List (Nat × Nat), (fields.mapM (fun (f : Field) => (do pure (f.offset, ← sizeOf f.type) : Sem (Nat × Nat)))).run P w = .ok l w ∧ ∀ j, l[j]? = placesOf P fields j
  | [], _ => ⟨[], by simp, by simp [placesOf]⟩
  | f :: rest, h => by
    simp only [List.all_cons, Bool.and_eq_true] at h
    obtain ⟨n, hn⟩ := Option.isSome_iff_exists.1 h.1
    obtain ⟨l, h1, h3⟩ := run_mapM_places h.2
    refine ⟨(f.offset, n) :: l, ?_, fun j => ?_⟩
    · rw [List.mapM_cons]
      simp only [Sem.run_bind, run_sizeOf hn, Result.andThen, Sem.run_pure, h1]
    · cases j with
      | zero => simp [hn, placesOf]
      | succ j => simpa [placesOf] using h3 j

theorem build_struct_ok (hX : RepH X) (hw : w.heap = X.H) {t : TypeId} {fields : Array Field} {z : List D} {E : Env} {tm : Nat → T} {a : Act} (ha : ∀ x, RepT X (evO E tm x) (a.eval x)) {parts : Array (Nat × Operand)} {cs : List C}
    (hz : zeroCs P t = some z) (hu : P.underlying t = some (.struct fields)) (hall : fields.toList.all (fun f => (sizeOf? P f.type).isSome) = true)
    (h : fillC (placesOf P fields.toList) (z.map .d) (parts.toList.map fun (i, x) => (i, evO E tm x)) = some cs) :
    OpOK P X w (do pure (.value (← Instr.build t (parts.map fun (i, x) => (i, a.eval x))))) { val := .agg cs, ws := [] } := by
  obtain ⟨zv, hzv, rfl, h1⟩ := zeroCs_ok hz
  obtain ⟨p1, p2⟩ := parts_ok ha parts
  obtain ⟨l, l1, l3⟩ := run_mapM_places (w := w) hall
  obtain ⟨out, o1, o2⟩ := fill_ok (vs := zv.cells) h p1 p2 (vals_cells h1)
  refine OpOK.val hX hw (v := .agg out) ?_ o2.agg
  have hplace : (fun i => (l.toArray : Array (Nat × Nat))[i]?) = placesOf P fields.toList := by
    funext i
    simp only [List.getElem?_toArray]
    exact l3 i
  have hm : (fields.mapM (fun (f : Field) => (do pure (f.offset, ← sizeOf f.type) : Sem (Nat × Nat)))).run P w = .ok l.toArray w := by
    rw [Array.mapM_eq_mapM_toList]
    simp only [Sem.run_map, l1, Result.andThen]
  unfold Instr.build
  simp only [Sem.run_bind, run_zeroValue hzv, Result.andThen, run_underlying hu]
  rw [hm]
  simp only
  rw [hplace]
  simp only [o1]
  rfl

theorem build_array_ok (hX : RepH X) (hw : w.heap = X.H) {t elem : TypeId} {n size : Nat} {z : List D} {E : Env} {tm : Nat → T} {a : Act} (ha : ∀ x, RepT X (evO E tm x) (a.eval x)) {parts : Array (Nat × Operand)} {cs : List C}
    (hz : zeroCs P t = some z) (hu : P.underlying t = some (.array n elem)) (hs : sizeOf? P elem = some size)
    (h : fillC (fun i => some (i * size, size)) (z.map .d) (parts.toList.map fun (i, x) => (i, evO E tm x)) = some cs) :
    OpOK P X w (do pure (.value (← Instr.build t (parts.map fun (i, x) => (i, a.eval x))))) { val := .agg cs, ws := [] } := by
  obtain ⟨zv, hzv, rfl, h1⟩ := zeroCs_ok hz
  obtain ⟨p1, p2⟩ := parts_ok ha parts
  obtain ⟨out, o1, o2⟩ := fill_ok (vs := zv.cells) h p1 p2 (vals_cells h1)
  refine OpOK.val hX hw (v := .agg out) ?_ o2.agg
  unfold Instr.build
  simp only [Sem.run_bind, run_zeroValue hzv, Result.andThen, run_underlying hu, run_sizeOf hs, o1]
  rfl

/-! ### slices' literals -/
theorem chunk_get {α : Type} (size : Nat) : ∀ (n i : Nat) (l : List α), i < n → (chunk size n l)[i]? = some ((l.drop (i * size)).take size)
  | 0, i, l, h => by omega
  | n + 1, 0, l, _ => by simp [chunk]
  | n + 1, i + 1, l, h => by
    simp only [chunk, List.getElem?_cons_succ]
    rw [chunk_get size n i _ (by omega), List.drop_drop, Nat.add_mul, Nat.one_mul, Nat.add_comm]
theorem chunk_len {α : Type} (size : Nat) : ∀ (n : Nat) (l : List α), (chunk size n l).length = n
  | 0, _ => rfl
  | n + 1, l => by simp [chunk, chunk_len size n]

theorem chunk_row {cs : List C} {vs : Array Value} {n size : Nat} (h : CellsOK (RepC X) cs vs.toList) (hl : cs.length = n * size) : RowOK (RepC X) vs size (chunk size n cs) := by
  have hvl : vs.size = n * size := by have := h.1; simp at this; omega
  refine ⟨fun i c hi => ?_, by rw [chunk_len]; omega, fun i c j d hi hj => ?_⟩
  · have hin : i < n := by have := (List.getElem?_eq_some_iff.1 hi).1; rwa [chunk_len] at this
    rw [chunk_get size n i cs hin] at hi
    obtain rfl := Option.some.inj hi
    have : (i + 1) * size ≤ n * size := Nat.mul_le_mul_right _ hin
    rw [Nat.add_mul] at this
    simp
    omega
  · have hin : i < n := by have := (List.getElem?_eq_some_iff.1 hi).1; rwa [chunk_len] at this
    rw [chunk_get size n i cs hin] at hi
    obtain rfl := Option.some.inj hi
    rw [List.getElem?_take] at hj
    split at hj
    · rename_i hjs
      rw [List.getElem?_drop] at hj
      have hk := mul_lt_of hin hjs
      have hk' : i * size + j < vs.size := by omega
      exact ⟨vs[i * size + j], Array.getElem?_eq_getElem hk', h.2 _ d _ hj (by simp [hk'])⟩
    · simp at hj

theorem replicate_flatten_get {α : Type} (z : List α) (n k : Nat) (h : k < n * z.length) : (List.replicate n z).flatten[k]? = z[k % z.length]? := by
  induction n generalizing k with
  | zero => omega
  | succ n ih =>
    rw [List.replicate_succ, List.flatten_cons, List.getElem?_append]
    split
    · rename_i hk; rw [Nat.mod_eq_of_lt hk]
    · rename_i hk
      rw [Nat.add_mul] at h
      rw [ih (k - z.length) (by omega)]
      congr 1
      exact (Nat.mod_eq_sub_mod (by omega)).symm

theorem buildSlice_ok (hX : RepH X) (hw : w.heap = X.H) {site : Nat} {t elem : TypeId} {len size : Nat} {z : List D} {E : Env} {tm : Nat → T} {a : Act} (ha : ∀ x, RepT X (evO E tm x) (a.eval x)) {parts : Array (Nat × Operand)} {cs : List C}
    (ht : slElem? P t = some elem) (hs : sizeOf? P elem = some size) (hz : zeroCs P elem = some z) (hs0 : Nat.beq size 0 = false) (hzl : Nat.beq z.length size = true) (hle : Nat.ble (len * size) 16777216 = true)
    (h : fillC (fun i => some (i * size, size)) ((List.replicate len z).flatten.map .d) (parts.toList.map fun (i, x) => (i, evO E tm x)) = some cs) :
    OpOK P X w (do pure (.value (← Instr.buildSlice t len (parts.map fun (i, x) => (i, a.eval x))))) { val := .one (.own site (nextVer (X.h site))), ws := [(site, { ver := nextVer (X.h site), blk := mkBlk size (chunk size len cs) })] } := by
  obtain ⟨zv, hzv, rfl, h1⟩ := zeroCs_ok hz
  obtain ⟨p1, p2⟩ := parts_ok ha parts
  have hzs := Nat.eq_of_beq_eq_true hzl
  simp only [List.length_map, Array.length_toList] at hzs
  have hle := Nat.le_of_ble_eq_true hle
  let vs := (Array.range (len * size)).map (zv.cells[· % zv.cells.size]!)
  have hvs : CellsOK (RepC X) ((List.replicate len (zv.cells.toList.map D.v)).flatten.map C.d) vs.toList := by
    refine ⟨by simp [vs, hzs], fun j c v hj hv => ?_⟩
    have hjl : j < len * size := by have := (List.getElem?_eq_some_iff.1 hv).1; simpa [vs] using this
    have hsz : 0 < size := by rcases Nat.eq_zero_or_pos size with h | h; · rw [h] at hjl; omega
                              · exact h
    rw [List.getElem?_map, replicate_flatten_get _ _ _ (by simp [hzs, hjl]), List.getElem?_map] at hj
    have hmod : j % zv.cells.size < zv.cells.size := Nat.mod_lt _ (by omega)
    simp only [List.length_map, Array.length_toList] at hj
    have hg : zv.cells.toList[j % zv.cells.size]? = some zv.cells[j % zv.cells.size] := by simp [hmod]
    rw [hg] at hj
    simp at hj
    subst hj
    have hv' : vs[j]? = some v := by simpa using hv
    simp only [vs] at hv'
    rw [Array.getElem?_map, Array.getElem?_range, if_pos hjl] at hv'
    simp only [Option.map_some, Option.some.injEq] at hv'
    rw [show zv.cells[j % zv.cells.size]! = zv.cells[j % zv.cells.size] from getElem!_pos zv.cells _ hmod] at hv'
    subst hv'
    exact .d _ _ (.v _ (h1 _ (List.mem_of_getElem? hg)))
  obtain ⟨out, o1, o2⟩ := fill_ok (vs := vs) h p1 p2 hvs
  have hcl : cs.length = len * size := by
    have : ∀ {parts : List (Nat × T)} {cells cs : List C}, fillC (fun i => some (i * size, size)) cells parts = some cs → cs.length = cells.length := by
      intro parts
      induction parts with
      | nil => intro cells cs h; simp [fillC] at h; rw [h]
      | cons p rest ih =>
        intro cells cs h
        obtain ⟨i, t⟩ := p
        simp only [fillC] at h
        cases ht : cellsT t with
        | none => rw [ht] at h; simp at h
        | some tc =>
          rw [ht] at h
          simp only at h
          cases h1 : Nat.beq tc.length size with
          | false => rw [h1] at h; simp at h
          | true =>
            cases h2 : Nat.ble (i * size + size) cells.length with
            | false => rw [h1, h2] at h; simp at h
            | true =>
              rw [h1, h2] at h
              simp only at h
              have h1 := Nat.eq_of_beq_eq_true h1
              have h2 := Nat.le_of_ble_eq_true h2
              rw [ih h, setCells_len _ _ _ (by omega)]
    rw [this h]
    simp [hzs]
  have hol : out.size = len * size := by have := o2.1; simp at this; omega
  have hrun : (Instr.buildSlice t len (parts.map fun (i, x) => (i, a.eval x))).run P w = .ok (.slice (some ⟨w.heap.size, 0, none⟩) len len) { w with heap := w.heap.push (.cells out elem) } := by
    unfold Instr.buildSlice
    have hne : ¬ (2 ^ 24 < len * size) := by omega
    by_cases h0 : len * size = 0
    · have hlen : len = 0 := by
        rcases Nat.mul_eq_zero.1 h0 with h | h
        · exact h
        · rw [h] at hs0; simp at hs0
      have hvs0 : vs = (Array.range (len * size)).map ((#[] : Array Value)[· % (#[] : Array Value).size]!) := by
        simp [vs, h0]
      simp only [Sem.run_bind, run_underlying (slElem_eq ht), Result.andThen, run_sizeOf hs]
      rw [if_neg hne, if_pos h0]
      simp only [Sem.run_bind, Sem.run_pure, Result.andThen]
      rw [← hvs0, o1]
      simp [newRow]
    · simp only [Sem.run_bind, run_underlying (slElem_eq ht), Result.andThen, run_sizeOf hs]
      rw [if_neg hne, if_neg h0]
      simp only [Sem.run_bind, run_zeroValue hzv, Sem.run_pure, Result.andThen]
      rw [show ((Array.range (len * size)).map (zv.cells[· % zv.cells.size]!)) = vs from rfl, o1]
      simp [newRow]
  refine new_ok (t := fun n => .one (.own site n)) hX (o := .cells out elem) hrun ⟨by simp [hw], rfl⟩ (fun X' le hρ hH => ?_) (fun X' le hρ hH hh => ?_)
  · exact mkBlk_row (X := X') (by rw [hρ]; exact hH) (RowOK.mono (R' := RepC X') (chunk_row o2 hcl) fun d v h => RepC.mono le h)
  · rw [hw]
    refine own_new (sz := size) (n := len) hρ hh ?_ (Nat.le_refl _) ?_
    · have := mkBlk_shape size (chunk size len cs); rwa [chunk_len] at this
    · simp [rowCells, hH, hol]
end
end Go.Ex
