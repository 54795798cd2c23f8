/- Exec, part G: operations that write: store, append, copy, clear, make, and slices' literals. -/
import Derived.Test.YtfnpmhhlhlbclaaDoorExF
namespace Go.Ex

section
variable {P : Program} {X : Ctx} {w : World}

theorem RepD.of_c {x : D} {v : Value} (h : RepC X (.d x) v) : RepD X.H X.Z x v := by cases h with | d _ _ h => exact h

theorem Blk.row_live {b : Blk} {q : Nat × Nat} (h : b.row = some q) : b.live = true := by cases b <;> simp [Blk.row, Blk.live] at h ⊢
theorem Blk.row_notMap {b : Blk} {q : Nat × Nat} (h : b.row = some q) : b.isMap = false := by cases b <;> simp [Blk.row, Blk.isMap] at h ⊢

theorem map_getD {α β : Type} (f : α → β) (es : List (List α)) (e : Nat) : (es.map (·.map f)).getD e [] = (es.getD e []).map f := by
  simp only [List.getD, List.getElem?_map]
  cases es[e]? <;> simp

/-- the shape of a block that a store has written -/
theorem storeBlk_out {h : Nat → Option Ent} {b b' : Blk} {e o : Nat} {new : List C} (hs : (storeBlk b e o new).Out h b') :
    ∃ sz es, b.row = some (sz, es) ∧ b'.row = some (sz, es) ∧ e < es := by
  unfold storeBlk at hs
  cases b with
  | dead => simp at hs
  | mp _ => simp at hs
  | dat q sz es =>
    simp only [Rd.out_br, Rd.out_fail, and_false, or_false] at hs
    obtain ⟨h1, _, h2⟩ := hs
    have h1 : e < es.length := by simpa [Nat.blt_eq] using h1
    cases hd : toDs new with
    | none => rw [hd] at h2; simp only [Rd.out_ret] at h2; subst h2; exact ⟨sz, es.length, rfl, by simp [Blk.row], h1⟩
    | some l => rw [hd] at h2; simp only [Rd.out_ret] at h2; subst h2; exact ⟨sz, es.length, rfl, by simp [Blk.row], h1⟩
  | refs sz es =>
    simp only [Rd.out_br, Rd.out_fail, and_false, or_false, Rd.out_ret] at hs
    obtain ⟨h1, _, h2⟩ := hs
    have h1 : e < es.length := by simpa [Nat.blt_eq] using h1
    subst h2
    exact ⟨sz, es.length, rfl, by simp [Blk.row], h1⟩

theorem store_ok (hX : RepH X) (hw : w.heap = X.H) {t : TypeId} {size id ver e off : Nat} {x : T} {cs : List C} {v va : Value} {b b' : Blk} (hs : sizeOf? P t = some size) (hc : cellsT x = some cs)
    (hx : RepT X x v) (ha : RepT X (.one (.ptr id ver e off)) va) (hl : cs.length = size) (hb : (block id ver).Out X.h b) (hst : (storeBlk b e off cs).Out X.h b') :
    OpOK P X w (do Instr.storeAt t va v; pure .skip) { val := .any, ws := [(id, { ver := ver, blk := b' })] } := by
  obtain ⟨en, he, hv, rfl⟩ := block_out hb
  obtain ⟨sz, n, hr, hr', hlt⟩ := storeBlk_out hst
  obtain ⟨h1, h2, h3⟩ := cellsT_ok hc hx
  cases ha with | one _ _ ha =>
  cases ha with | ptr _ _ _ _ en0 _ _ hh _ hp =>
  rw [he] at hh
  obtain rfl := Option.some.inj hh
  obtain rfl := hp hv.symm sz n hr
  have hB := hX.blk id en he
  have hrun : ∀ {w' : World}, (storeCells ⟨X.ρ id, e * sz + off, none⟩ v.cells.toList).run P w = .ok () w' → ((do Instr.storeAt t (.pointer (some ⟨X.ρ id, e * sz + off, none⟩)) v; pure .skip : Sem Next)).run P w = .ok .skip w' := by
    intro w' h
    have : v.cells.size = size := by rw [← hl, ← h1]; simp
    simp [Instr.storeAt, Instr.sureAddr, storeVar, run_sizeOf hs, this, h]
  have key : ∀ (c : Array Value) (ty : TypeId), X.H[X.ρ id]? = some (.cells c ty (0, 0)) → e * sz + off + v.cells.toList.length ≤ c.size →
      (∀ X', Le X X' → X'.ρ = X.ρ → X'.H[X.ρ id]? = some (.cells (c.toList.take (e * sz + off) ++ v.cells.toList ++ c.toList.drop (e * sz + off + v.cells.toList.length)).toArray ty (0, 0)) → RepB X' id b') →
      OpOK P X w (do Instr.storeAt t (.pointer (some ⟨X.ρ id, e * sz + off, none⟩)) v; pure .skip) { val := .any, ws := [(id, { ver := ver, blk := b' })] } := by
    intro c ty hcc hfit hB'
    obtain ⟨w', X', a1, a2, a3, _, a5, a6, _⟩ := write_row (P := P) hX hw he (en' := { ver := ver, blk := b' }) (Blk.row_live hr) hcc hfit h3
      (.inr ⟨hv, fun q hq => by rw [hr]; rw [hr'] at hq; exact hq, fun hm => by rw [Blk.row_notMap hr'] at hm; simp at hm⟩) hB'
    exact ⟨.skip, undef, w', X', hrun a1, .inr ⟨rfl, rfl⟩, a2, a3, a5, a6, .any _⟩
  unfold storeBlk at hst
  cases hk : en.blk with
  | dead => rw [hk] at hst; simp at hst
  | mp _ => rw [hk] at hst; simp at hst
  | dat q sz0 es =>
    rw [hk] at hst hB hr
    simp only [Blk.row, Option.some.injEq, Prod.mk.injEq] at hr
    obtain ⟨rfl, rfl⟩ := hr
    simp only [Rd.out_br, Rd.out_fail, and_false, or_false] at hst
    obtain ⟨_, ho, h⟩ := hst
    have ho : off + cs.length ≤ (es.getD e []).length := Nat.le_of_ble_eq_true ho
    obtain ⟨c, ty, hcc, hrow⟩ := hB
    have hrow : RowOK (RepD X.H X.Z) c sz0 es := hrow
    cases hd : toDs cs with
    | some l =>
      rw [hd] at h
      simp only [Rd.out_ret] at h
      subst h
      have hcl := toDs_eq hd
      have hll : l.length = cs.length := by rw [hcl]; simp
      have set := fun (X' : Ctx) (le : Le X X') => RowOK.set (hrow.mono (fun d v h => RepD.mono le.kept h)) hlt (o := off) (l := l) (vs := v.cells.toList) (by omega) (by omega)
        (fun j d u hj hu => RepD.of_c ((h2 j (.d d) u (by rw [hcl, List.getElem?_map, hj]; rfl) hu).mono le))
      exact key c ty hcc (set X (.refl X)).2 fun X' le hρ hH => ⟨_, ty, by rw [hρ]; exact hH, (set X' le).1⟩
    | none =>
      rw [hd] at h
      simp only [Rd.out_ret] at h
      subst h
      have set := fun (X' : Ctx) (le : Le X X') => RowOK.set ((hrow.mono (fun d v h => RepD.mono le.kept h)).map C.d (R' := RepC X') (fun d v h => .d d v h)) (e := e) (o := off) (l := cs) (vs := v.cells.toList) (by simpa using hlt)
        (by rw [map_getD]; simpa using ho) (by omega) (fun j d u hj hu => (h2 j d u hj hu).mono le)
      refine key c ty hcc (set X (.refl X)).2 fun X' le hρ hH => ⟨_, ty, by rw [hρ]; exact hH, ?_⟩
      have := (set X' le).1
      rw [map_getD] at this
      exact this
  | refs sz0 es =>
    rw [hk] at hst hB hr
    simp only [Blk.row, Option.some.injEq, Prod.mk.injEq] at hr
    obtain ⟨rfl, rfl⟩ := hr
    simp only [Rd.out_br, Rd.out_fail, and_false, or_false, Rd.out_ret] at hst
    obtain ⟨_, ho, rfl⟩ := hst
    have ho : off + cs.length ≤ (es.getD e []).length := Nat.le_of_ble_eq_true ho
    obtain ⟨c, ty, hcc, hrow⟩ := hB
    have hrow : RowOK (RepC X) c sz0 es := hrow
    have set := fun (X' : Ctx) (le : Le X X') => RowOK.set (hrow.mono (fun d v h => RepC.mono le h)) hlt (o := off) (l := cs) (vs := v.cells.toList) ho (by omega)
        (fun j d u hj hu => (h2 j d u hj hu).mono le)
    exact key c ty hcc (set X (.refl X)).2 fun X' le hρ hH => ⟨_, ty, by rw [hρ]; exact hH, (set X' le).1⟩

theorem toDs_map : ∀ (ds : List D), toDs (ds.map .d) = some ds
  | [] => rfl
  | d :: r => by simp only [List.map_cons, toDs, toDs_map r]
theorem storeD_eq (b : Blk) (e o : Nat) (ds : List D) : storeD b e o ds = storeBlk b e o (ds.map .d) := by
  unfold storeD
  split
  · simp only [storeBlk, List.length_map, toDs_map]
  · rfl
theorem RepT.aggd_agg {X : Ctx} {ds : List D} {v : Value} (h : RepT X (.aggd ds) v) : RepT X (.agg (ds.map .d)) v := by
  cases h with | aggd _ vs hl hr =>
  refine .agg _ vs (by simpa using hl) fun j c v a b => ?_
  rw [List.getElem?_map, Option.map_eq_some_iff] at a
  obtain ⟨d, hd, rfl⟩ := a
  exact .d _ _ (hr j d v hd b)
theorem store_okD (hX : RepH X) (hw : w.heap = X.H) {t : TypeId} {size id ver e off : Nat} {ds : List D} {v va : Value} {b b' : Blk} (hs : sizeOf? P t = some size)
    (hx : RepT X (.aggd ds) v) (ha : RepT X (.one (.ptr id ver e off)) va) (hl : ds.length = size) (hb : (block id ver).Out X.h b) (hst : (storeD b e off ds).Out X.h b') :
    OpOK P X w (do Instr.storeAt t va v; pure .skip) { val := .any, ws := [(id, { ver := ver, blk := b' })] } :=
  store_ok hX hw hs (x := .agg (ds.map .d)) rfl hx.aggd_agg ha (by simpa using hl) hb (by rw [← storeD_eq]; exact hst)

/-! ### what is appended or copied -/
/-- real cells stand for a source's elements -/
def SrcOK (X : Ctx) (size : Nat) (vs : List Value) : Src → Prop
  | .ds l => RowOK (RepD X.H X.Z) vs.toArray size l
  | .cs l => RowOK (RepC X) vs.toArray size l

theorem SrcOK.mono {X' : Ctx} (le : Le X X') {size : Nat} {vs : List Value} {l : Src} (h : SrcOK X size vs l) : SrcOK X' size vs l := by
  cases l with
  | ds l => exact RowOK.mono h fun d v h => RepD.mono le.kept h
  | cs l => exact RowOK.mono h fun d v h => RepC.mono le h

theorem SrcOK.one {size : Nat} {vs : List Value} {l : Src} (h : SrcOK X size vs l) (hl : vs.length = l.len * size) : ∀ u ∈ vs, u.oneCell' = true := by
  have fin : ∀ {α : Type} {R : α → Value → Prop} {es : List (List α)}, RowOK R vs.toArray size es → vs.length = es.length * size → (∀ d v, R d v → v.oneCell' = true) → ∀ u ∈ vs, u.oneCell' = true := by
    intro α R es hr hn h1 u hu
    obtain ⟨k, hk⟩ := List.mem_iff_getElem?.1 hu
    have hlt := (List.getElem?_eq_some_iff.1 hk).1
    have hs : 0 < size := by rcases Nat.eq_zero_or_pos size with h | h; · rw [h] at hn; omega
                             · exact h
    have hi : k / size < es.length := by rw [Nat.div_lt_iff_lt_mul hs]; omega
    have hj : k % size < size := Nat.mod_lt _ hs
    have h2 := hr.1 _ _ (List.getElem?_eq_getElem hi)
    obtain ⟨v, h3, h4⟩ := hr.2.2 _ _ (k % size) _ (List.getElem?_eq_getElem hi) (List.getElem?_eq_getElem (by omega))
    rw [show k / size * size + k % size = k by rw [Nat.mul_comm]; exact Nat.div_add_mod k size] at h3
    simp at h3
    rw [hk] at h3
    obtain rfl := Option.some.inj h3
    exact h1 _ _ h4
  cases l with
  | ds l => exact fin h hl fun d v h => h.one
  | cs l => exact fin h hl fun d v h => h.one

/-- a slice value over real cells -/
def SliceAt (w : World) (v : Value) (n : Nat) (vs : List Value) : Prop :=
  ∃ a cap, v = .slice a n cap ∧ (n = 0 ∨ ∃ ad, a = some ad ∧ ∀ (j : Nat) (u : Value), vs[j]? = some u → w.cell? (ad.add j) = some u)

theorem srcRow {α : Type} {R : α → Value → Prop} {c : Array Value} {sz e n : Nat} {es : List (List α)} (hrow : RowOK R c sz es) (hle : e + n ≤ es.length) {b : Nat} {ty : TypeId}
    (hc : w.heap[b]? = some (.cells c ty (0, 0))) : ∃ vs : List Value, vs.length = n * sz ∧ RowOK R vs.toArray sz ((es.drop e).take n) ∧ ∀ (j : Nat) (u : Value), vs[j]? = some u → w.cell? ((⟨b, e * sz, none⟩ : Addr).add j) = some u := by
  obtain ⟨vs, h1, h2, h3⟩ := hrow.sub e n hle
  refine ⟨vs, h1, h3, fun j u hj => ?_⟩
  rw [Addr.add_lit, cell?_eq]
  simp only [cellAt, hc]
  exact h2 j u hj

theorem srcOf_ok (hX : RepH X) (hw : w.heap = X.H) {size : Nat} {x : T} {v : Value} {l : Src} (hx : RepT X x v) (h : (srcOf size x).Out X.h l) :
    ∃ vs, vs.length = l.len * size ∧ SrcOK X size vs l ∧ SliceAt w v l.len vs := by
  have ro : ∀ {nl : Bool} {sz : Nat} {es : List (List D)}, Nat.beq sz size = true → RepD X.H X.Z (.ro nl sz es) v → Src.ds es = l → ∃ vs, vs.length = l.len * size ∧ SrcOK X size vs l ∧ SliceAt w v l.len vs := by
    intro nl sz es hs hx hl
    subst hl
    obtain rfl := Nat.eq_of_beq_eq_true hs
    cases hx with
    | nil sz => exact ⟨[], by simp [Src.len], ⟨by simp, by simp, by simp⟩, none, 0, rfl, .inl rfl⟩
    | roz sz a cap => exact ⟨[], by simp [Src.len], ⟨by simp, by simp, by simp⟩, some a, cap, rfl, .inl rfl⟩
    | ro _ _ b off cap g hcap hsz hb hc hr =>
      refine ⟨(List.range (es.length * sz)).map fun k => g (k / sz) (k % sz), by simp [Src.len], ?_, some ⟨b, off, none⟩, cap, rfl, ?_⟩
      · refine ⟨hsz, by simp, fun i cs j d hi hj => ⟨g i j, ?_, hr i cs j d hi hj⟩⟩
        have hlen := hsz i cs hi
        have hjl : j < sz := by rw [← hlen]; exact (List.getElem?_eq_some_iff.1 hj).1
        have hil := (List.getElem?_eq_some_iff.1 hi).1
        have hk := mul_lt_of hil hjl
        have hs0 : 0 < sz := Nat.zero_lt_of_lt hjl
        simp only [List.getElem?_toArray, List.getElem?_map, List.getElem?_range hk, Option.map_some]
        congr 2
        · rw [Nat.mul_comm, Nat.mul_add_div hs0, Nat.div_eq_of_lt hjl, Nat.add_zero]
        · rw [Nat.mul_comm, Nat.mul_add_mod, Nat.mod_eq_of_lt hjl]
      · rcases Nat.eq_zero_or_pos es.length with h0 | h0
        · exact .inl h0
        · refine .inr ⟨_, rfl, fun k u hk => ?_⟩
          rw [List.getElem?_map] at hk
          cases hr' : (List.range (es.length * sz))[k]? with
          | none => rw [hr'] at hk; simp at hk
          | some k' =>
            have hlt : k < es.length * sz := by have := (List.getElem?_eq_some_iff.1 hr').1; simpa using this
            rw [List.getElem?_range hlt] at hr'
            obtain rfl := Option.some.inj hr'
            rw [List.getElem?_range hlt] at hk
            simp at hk
            subst hk
            have hs0 : 0 < sz := by rcases Nat.eq_zero_or_pos sz with h | h; · rw [h] at hlt; omega
                                    · exact h
            have hi : k / sz < es.length := by rw [Nat.div_lt_iff_lt_mul hs0]; omega
            have hj : k % sz < sz := Nat.mod_lt _ hs0
            have h2 := hsz _ _ (List.getElem?_eq_getElem hi)
            have h3 := hc _ _ (k % sz) _ (List.getElem?_eq_getElem hi) (List.getElem?_eq_getElem (by omega))
            rw [show k / sz * sz + k % sz = k by rw [Nat.mul_comm]; exact Nat.div_add_mod k sz] at h3
            rw [Addr.add_lit, cell?_eq, hw]
            exact h3
  unfold srcOf at h
  split at h
  · rename_i nl sz es
    cases hs : Nat.beq sz size with
    | false => rw [hs] at h; simp at h
    | true =>
      rw [hs] at h
      simp only [Rd.out_ret] at h
      subst h
      cases hx with | one _ _ hx => cases hx with | d _ _ hx => exact ro hs hx rfl
  · simp only [Rd.out_ret] at h
    subst h
    cases hx with | one _ _ hx =>
    cases hx with | d _ _ hx =>
    cases hx
    exact ⟨[], by simp [Src.len], ⟨by simp, by simp, by simp⟩, none, _, rfl, .inl rfl⟩
  · rename_i id ver
    rw [Rd.out_bind] at h
    obtain ⟨b, hb, h⟩ := h
    obtain ⟨en, he, hv, rfl⟩ := block_out hb
    cases hx with | one _ _ hx =>
    cases hx with | own _ _ en' _ h1 hh hv' hp =>
    rw [he] at hh
    obtain rfl := Option.some.inj hh
    have hB := hX.blk id en he
    cases hk : en.blk with
    | dead => rw [hk] at h; simp at h
    | mp _ => rw [hk] at h; simp at h
    | dat q sz es =>
      rw [hk] at h hB hp
      simp only at h
      cases hs : Nat.beq sz size with
      | false => rw [hs] at h; simp at h
      | true =>
        rw [hs] at h
        simp only [Rd.out_ret] at h
        subst h
        obtain rfl := Nat.eq_of_beq_eq_true hs
        obtain ⟨cap, rfl, hn, hcap⟩ := hp hv.symm sz es.length rfl
        obtain ⟨c, ty, hc, hrow⟩ := hB
        obtain ⟨vs, a1, a2, a3⟩ := srcRow (w := w) (e := 0) (n := es.length) hrow (by omega) (b := X.ρ id) (ty := ty) (by rw [hw]; exact hc)
        simp only [Nat.zero_mul, List.drop_zero, List.take_length] at a2 a3
        exact ⟨vs, a1, a2, _, cap, rfl, .inr ⟨_, rfl, a3⟩⟩
    | refs sz es =>
      rw [hk] at h hB hp
      simp only at h
      cases hs : Nat.beq sz size with
      | false => rw [hs] at h; simp at h
      | true =>
        rw [hs] at h
        simp only [Rd.out_ret] at h
        subst h
        obtain rfl := Nat.eq_of_beq_eq_true hs
        obtain ⟨cap, rfl, hn, hcap⟩ := hp hv.symm sz es.length rfl
        obtain ⟨c, ty, hc, hrow⟩ := hB
        obtain ⟨vs, a1, a2, a3⟩ := srcRow (w := w) (e := 0) (n := es.length) hrow (by omega) (b := X.ρ id) (ty := ty) (by rw [hw]; exact hc)
        simp only [Nat.zero_mul, List.drop_zero, List.take_length] at a2 a3
        exact ⟨vs, a1, a2, _, cap, rfl, .inr ⟨_, rfl, a3⟩⟩
  · rename_i id ver e len
    rw [Rd.out_bind] at h
    obtain ⟨b, hb, h⟩ := h
    obtain ⟨en, he, hv, rfl⟩ := block_out hb
    cases hx with | one _ _ hx =>
    cases hx with | sl _ _ _ _ en' _ h1 hh hv' hp =>
    rw [he] at hh
    obtain rfl := Option.some.inj hh
    have hB := hX.blk id en he
    cases hk : en.blk with
    | dead => rw [hk] at h; simp at h
    | mp _ => rw [hk] at h; simp at h
    | dat q sz es =>
      rw [hk] at h hB hp
      simp only at h
      cases hs : Nat.beq sz size with
      | false => rw [hs] at h; simp at h
      | true =>
        rw [hs] at h
        simp only [Rd.out_ret] at h
        subst h
        obtain rfl := Nat.eq_of_beq_eq_true hs
        obtain ⟨off, cap, rfl, hn, hcap, hfit, hoff⟩ := hp hv.symm sz es.length rfl
        obtain ⟨c, ty, hc, hrow⟩ := hB
        obtain ⟨vs, a1, a2, a3⟩ := srcRow (w := w) (e := e) (n := len) hrow hn (b := X.ρ id) (ty := ty) (by rw [hw]; exact hc)
        have hll : ((es.drop e).take len).length = len := by simp; omega
        refine ⟨vs, by simp only [Src.len, hll]; exact a1, a2, some ⟨X.ρ id, off, none⟩, cap, by simp only [Src.len, hll], ?_⟩
        simp only [Src.len, hll]
        rcases hoff with rfl | h0
        · exact .inr ⟨_, rfl, a3⟩
        · exact .inl (by omega)
    | refs sz es =>
      rw [hk] at h hB hp
      simp only at h
      cases hs : Nat.beq sz size with
      | false => rw [hs] at h; simp at h
      | true =>
        rw [hs] at h
        simp only [Rd.out_ret] at h
        subst h
        obtain rfl := Nat.eq_of_beq_eq_true hs
        obtain ⟨off, cap, rfl, hn, hcap, hfit, hoff⟩ := hp hv.symm sz es.length rfl
        obtain ⟨c, ty, hc, hrow⟩ := hB
        obtain ⟨vs, a1, a2, a3⟩ := srcRow (w := w) (e := e) (n := len) hrow hn (b := X.ρ id) (ty := ty) (by rw [hw]; exact hc)
        have hll : ((es.drop e).take len).length = len := by simp; omega
        refine ⟨vs, by simp only [Src.len, hll]; exact a1, a2, some ⟨X.ρ id, off, none⟩, cap, by simp only [Src.len, hll], ?_⟩
        simp only [Src.len, hll]
        rcases hoff with rfl | h0
        · exact .inr ⟨_, rfl, a3⟩
        · exact .inl (by omega)
  · rename_i nl sz n get
    cases hs : Nat.beq sz size with
    | false => rw [hs] at h; simp at h
    | true =>
      rw [hs] at h
      simp only [Rd.out_ret] at h
      cases hx with | one _ _ hx => cases hx with | d _ _ hx => exact ro hs hx.rof_ro h
  · simp at h
end
end Go.Ex
