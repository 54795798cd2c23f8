/- Exec, part I: more single operations: append, copy and clear as the interpreter has them, make, literals. -/
import Derived.Test.YtfnpmhhlhlbclaaDoorExH
namespace Go.Ex

section
variable {P : Program} {X : Ctx} {w : World}

theorem zero_of {t : TypeId} {z : Value} (h : zero? P t = some z) {i : TypeInfo} (hi : P.info? t = some i) : i.zero = some z := by
  unfold zero? at h; rw [hi] at h; simpa using h

theorem nil_own {n : Nat} {v : Value} (h : RepT X (.one (.d (.ro true n []))) v) : v = .slice none 0 0 := by
  cases h with | one _ _ h => cases h with | d _ _ h => cases h; rfl

theorem appendR_ok (hX : RepH X) (hw : w.heap = X.H) {opq : Nat → Bool} {site : Nat} {ts : Array TypeId} {ty : TypeId} {s x : T} {sv xv : Value} (hs : RepT X s sv) (hx : RepT X x xv) {st : Step}
    (h : (appendR P opq site ts s x).Out X.h st) : ∃ e, st = .eff e ∧ OpOK P X w (do pure (.value (← Builtin.append_ ts ty #[sv, xv]))) e := by
  unfold appendR at h
  split at h
  · rename_i t t' hts
    have hts : ts = #[t, t'] := by apply Array.ext'; simpa using hts
    subst hts
    cases htt : Nat.beq t t' with
    | false => rw [htt] at h; simp at h
    | true =>
      rw [htt] at h
      obtain rfl := Nat.eq_of_beq_eq_true htt
      simp only at h
      split at h
      · simp at h
      · rename_i e he
        have ht := slElem_eq he
        split at h
        · rename_i i z hi hz
          have hz := zero_of hz hi
          cases h0 : Nat.beq i.size 0 with
          | true => rw [h0] at h; simp at h
          | false =>
            cases h1 : Nat.beq i.bytes 0 with
            | true => rw [h0, h1] at h; simp at h
            | false =>
              cases h2 : Nat.beq z.cells.size i.size with
              | false => rw [h0, h1, h2] at h; simp at h
              | true =>
                rw [h0, h1, h2] at h
                have hzs := Nat.eq_of_beq_eq_true h2
                have hb0 : 0 < i.bytes := by
                  rcases Nat.eq_zero_or_pos i.bytes with h | h
                  · rw [h] at h1; simp at h1
                  · exact h
                simp only at h
                rw [Rd.out_bind] at h
                obtain ⟨l, hl, h⟩ := h
                obtain ⟨vs, hvl, hsrc, hxv⟩ := srcOf_ok hX hw hx hl
                have nilcase : ∀ {sv : Value}, sv = .slice none 0 0 → RepT X s sv → (Rd.br (Nat.beq l.len 0) (effR s) (.br (decide (l.len * i.bytes ≤ 140737488355328)) (newAt site (markQ (opq site) (srcBlk i.size l)) fun v => .one (.own site v)) .fail) : Rd Step).Out X.h st →
                    ∃ e, st = .eff e ∧ OpOK P X w (do pure (.value (← Builtin.append_ #[t, t] ty #[sv, xv]))) e := by
                  rintro sv rfl hs h
                  simp only [Rd.out_br, Rd.out_fail, and_false, or_false, effR, Rd.out_ret] at h
                  rcases h with ⟨hm, rfl⟩ | ⟨hm, hbd, h⟩
                  · have hm := Nat.eq_of_beq_eq_true hm
                    have : vs = [] := List.eq_nil_of_length_eq_zero (by rw [hvl, hm]; simp)
                    subst this
                    rw [hm] at hxv
                    exact ⟨_, rfl, OpOK.val hX hw (run_append_zero ht hi hxv (Nat.le_refl _)) hs⟩
                  · have hm : 0 < l.len := by
                      rcases Nat.eq_zero_or_pos l.len with h | h
                      · rw [h] at hm; simp at hm
                      · exact h
                    obtain rfl := newAt_out h
                    exact ⟨_, rfl, append_nil_ok hX hw ht hi hz hb0 hzs hvl hsrc hxv hm (by simpa using hbd)⟩
                split at h
                · refine nilcase ?_ hs h
                  cases hs with | one _ _ hs => cases hs with | d _ _ hs => cases hs; rfl
                · refine nilcase ?_ hs h
                  cases hs with | one _ _ hs => cases hs with | d _ _ hs => cases hs; rfl
                · rename_i id ver
                  rw [Rd.out_bind] at h
                  obtain ⟨b, hb, h⟩ := h
                  split at h
                  · rename_i sz n hr
                    cases hsz : Nat.beq sz i.size with
                    | false => rw [hsz] at h; simp at h
                    | true =>
                      obtain rfl := Nat.eq_of_beq_eq_true hsz
                      rw [hsz] at h
                      cases hj : joinBlk i.size b l with
                      | none => rw [hj] at h; simp at h
                      | some b' =>
                        rw [hj] at h
                        simp only [Rd.out_br, Rd.out_fail, and_false, or_false, Rd.out_ret] at h
                        obtain ⟨hbd, rfl⟩ := h
                        exact ⟨_, rfl, append_own_ok hX hw ht hi hz hb0 hzs hs hvl hsrc hxv hb hr hj (by simpa using hbd)⟩
                  · simp at h
                · rename_i id ver e0 len
                  rw [Rd.out_bind] at h
                  obtain ⟨b, hb, h⟩ := h
                  split at h
                  · rename_i sz n hr
                    cases hsz : Nat.beq sz i.size with
                    | false => rw [hsz] at h; simp at h
                    | true =>
                      obtain rfl := Nat.eq_of_beq_eq_true hsz
                      rw [hsz] at h
                      simp only at h
                      rw [Rd.out_bind] at h
                      obtain ⟨b', hb', h⟩ := h
                      simp only [Rd.out_ret] at h
                      subst h
                      obtain ⟨en, hen, hv, rfl⟩ := block_out hb
                      cases hs with | one _ _ hs =>
                      cases hs with | sl _ _ _ _ en0 _ _ hh _ hp =>
                      rw [hen] at hh
                      obtain rfl := Option.some.inj hh
                      obtain ⟨off, cap, rfl, b1, b2, b3, b4⟩ := hp hv.symm _ _ hr
                      obtain ⟨w', X', a1, a2, a3, a4, a5, a6, a7, a8, a9⟩ := spliceBlk_ok (P := P) hX hw hen hr hb' hsrc hvl
                      refine ⟨_, rfl, .value (.slice (some ⟨X.ρ id, off, none⟩) (len + l.len) cap), _, w', X', ?_, .inl rfl, a2, by rw [← hv]; exact a3, a5, a6, ?_⟩
                      · have hst : (storeCells ⟨X.ρ id, off + len * i.size, none⟩ vs).run P w = .ok () w' := by
                          rcases b4 with rfl | b4
                          · rw [← Nat.add_mul]; exact a1
                          · have h1 : l.len = 0 := by omega
                            have h2 : len = 0 := by omega
                            have : vs = [] := List.eq_nil_of_length_eq_zero (by rw [hvl, h1]; simp)
                            subst this
                            simp only [storeCells] at a1 ⊢
                            simpa using a1
                        simp [run_append_in (ty := ty) ht hi hxv hvl (show len + l.len ≤ cap by omega) hst]
                      · refine .one _ _ (.sl id ver e0 (len + l.len) { ver := en.ver, blk := b' } _ rfl (by rw [a3, updH_same]) (by show ver ≤ en.ver; omega) fun _ sz' n' hq => ?_)
                        simp only at hq
                        rw [a8] at hq
                        simp at hq
                        obtain ⟨rfl, rfl⟩ := hq
                        exact ⟨off, cap, by rw [a4], by omega, by omega, by rw [a4, a7]; exact b3, b4⟩
                  · simp at h
                · simp at h
        · simp at h
  · simp at h

theorem liveRow_out {h : Nat → Option Ent} {id ver : Nat} {q : Nat × Nat} (hb : (liveRow id ver).Out h q) : ∃ en, h id = some en ∧ en.ver = ver ∧ en.blk.row = some q := by
  unfold liveRow at hb
  rw [Rd.out_bind] at hb
  obtain ⟨b, h1, h2⟩ := hb
  obtain ⟨en, h3, h4, rfl⟩ := block_out h1
  exact ⟨en, h3, h4, Rd.out_opt.1 h2⟩

theorem lenR_ok {x : T} {n : Nat} {v : Value} (hx : RepT X x v) (h : (lenR x).Out X.h n) : ∃ a c, v = .slice a n c := by
  unfold lenR at h
  split at h
  · simp at h; subst h
    cases hx with | one _ _ hx => cases hx with | d _ _ hx => cases hx; exact ⟨_, _, rfl⟩
  · simp at h; subst h
    cases hx with | one _ _ hx => cases hx with | d _ _ hx =>
      cases hx with
      | nil => exact ⟨_, _, rfl⟩
      | ro => exact ⟨_, _, rfl⟩
      | roz => exact ⟨_, _, rfl⟩
  · rename_i id ver
    rw [Rd.out_bind] at h
    obtain ⟨q, hb, h⟩ := h
    simp at h; subst h
    obtain ⟨en, he, hv, hr⟩ := liveRow_out hb
    cases hx with | one _ _ hx =>
    cases hx with | own _ _ en0 _ _ hh _ hp =>
    rw [he] at hh
    obtain rfl := Option.some.inj hh
    obtain ⟨cap, rfl, _⟩ := hp hv.symm _ _ hr
    exact ⟨_, _, rfl⟩
  · rename_i id ver e n'
    rw [Rd.out_bind] at h
    obtain ⟨q, hb, h⟩ := h
    simp at h; subst h
    obtain ⟨en, he, hv, hr⟩ := liveRow_out hb
    cases hx with | one _ _ hx =>
    cases hx with | sl _ _ _ _ en0 _ _ hh _ hp =>
    rw [he] at hh
    obtain rfl := Option.some.inj hh
    obtain ⟨off, cap, rfl, _⟩ := hp hv.symm _ _ hr
    exact ⟨_, _, rfl⟩
  · simp at h; subst h
    cases hx with | one _ _ hx => cases hx with | d _ _ hx =>
      cases hx with
      | rofn => exact ⟨_, _, rfl⟩
      | rof => exact ⟨_, _, rfl⟩
      | rofz => exact ⟨_, _, rfl⟩
  · simp at h

theorem len_slice_ok {ts : Array TypeId} {t ty e : TypeId} {x : T} {n : Nat} {v : Value} (ht : ts[0]? = some t) (hu : P.underlying t = some (.slice e))
    (hx : RepT X x v) (h : (lenR x).Out X.h n) : (Builtin.len_ ts ty #[v]).run P w = .ok (.int .i64 (n : Nat)) w := by
  obtain ⟨a, c, rfl⟩ := lenR_ok hx h
  simp [Builtin.len_, ht, run_underlying hu, goInt]

theorem getObj_ok {r : Nat} {es : Array MapEntry} {clock : Nat} (h : w.heap[r]? = some (.map es clock)) : (getObj r).run P w = .ok (.map es clock) w := by
  simp [getObj, Sem.run, h]

theorem len_map_ok (hX : RepH X) (hw : w.heap = X.H) {ts : Array TypeId} {t ty k e : TypeId} {x : T} {n : Nat} {v : Value} (ht : ts[0]? = some t) (hu : P.underlying t = some (.map k e))
    (hx : RepT X x v) (h : (lenM x).Out X.h n) : (Builtin.len_ ts ty #[v]).run P w = .ok (.int .i64 (n : Nat)) w := by
  unfold lenM at h
  split at h
  · simp at h; subst h
    cases hx with | one _ _ hx => cases hx with | d _ _ hx =>
    cases hx with | v _ _ => simp [Builtin.len_, ht, run_underlying hu, goInt]
  · rename_i id ver
    rw [Rd.out_bind] at h
    obtain ⟨b, hb, h⟩ := h
    split at h
    · rename_i ents
      simp at h; subst h
      obtain ⟨en, he, hv, hk⟩ := block_out hb
      cases hx with | one _ _ hx =>
      cases hx with | mp _ _ en0 _ _ hh _ hp =>
      rw [he] at hh
      obtain rfl := Option.some.inj hh
      obtain rfl := hp hv.symm (by rw [hk]; rfl)
      have hB := hX.blk id en he
      rw [hk] at hB
      obtain ⟨es, clock, hh, hs, _⟩ := hB
      simp [Builtin.len_, ht, run_underlying hu, goInt, getObj_ok (P := P) (w := w) (by rw [hw]; exact hh), hs]
    · simp at h
  · simp at h

theorem len_string_ok {ts : Array TypeId} {t ty : TypeId} {s : ByteArray} (ht : ts[0]? = some t) (hu : P.underlying t = some .string) :
    (Builtin.len_ ts ty #[.string s]).run P w = .ok (.int .i64 (s.size : Nat)) w := by
  simp [Builtin.len_, ht, run_underlying hu, goInt]

/-! ### copy, clear -/
theorem placeOf_ok {d : T} {v : Value} {id ver e : Nat} (hp : placeOf d = some (id, ver, e)) (hd : RepT X d v) {en : Ent} (he : X.h id = some en) (hv : en.ver = ver) {sz n : Nat} (hr : en.blk.row = some (sz, n)) :
    ∃ off len cap, v = .slice (some ⟨X.ρ id, off, none⟩) len cap ∧ (off = e * sz ∨ len = 0) := by
  unfold placeOf at hp
  split at hp
  · simp at hp; obtain ⟨rfl, rfl, rfl⟩ := hp
    cases hd with | one _ _ hd =>
    cases hd with | own _ _ en0 _ _ hh _ hp =>
    rw [he] at hh
    obtain rfl := Option.some.inj hh
    obtain ⟨cap, rfl, _⟩ := hp hv.symm _ _ hr
    exact ⟨0, n, cap, rfl, .inl (by simp)⟩
  · simp at hp; obtain ⟨rfl, rfl, rfl⟩ := hp
    cases hd with | one _ _ hd =>
    cases hd with | sl _ _ _ _ en0 _ _ hh _ hp =>
    rw [he] at hh
    obtain rfl := Option.some.inj hh
    obtain ⟨off, cap, rfl, h1, h2, _, h4⟩ := hp hv.symm _ _ hr
    exact ⟨off, _, cap, rfl, h4.imp id fun h => by omega⟩
  · simp at hp

theorem Src.len_take (l : Src) (n : Nat) (h : n ≤ l.len) : (l.take n).len = n := by
  cases l <;> simp [Src.take, Src.len] at h ⊢ <;> omega

theorem SrcOK.take {size n : Nat} {vs : List Value} {l : Src} (h : SrcOK X size vs l) (hn : n ≤ l.len) : SrcOK X size (vs.take (n * size)) (l.take n) := by
  have fin : ∀ {α : Type} {R : α → Value → Prop} {es : List (List α)}, RowOK R vs.toArray size es → n ≤ es.length → RowOK R (vs.take (n * size)).toArray size (es.take n) := by
    intro α R es h hn
    have hsz := h.2.1
    refine ⟨fun i cs hi => ?_, ?_, fun i cs j d hi hj => ?_⟩
    · rw [List.getElem?_take] at hi
      split at hi
      · exact h.1 i cs hi
      · simp at hi
    · have : n * size ≤ es.length * size := Nat.mul_le_mul_right _ hn
      simp only [List.size_toArray, List.length_take] at hsz ⊢
      rw [Nat.min_eq_left hn, Nat.min_eq_left (by omega)]
      exact Nat.le_refl _
    · rw [List.getElem?_take] at hi
      split at hi
      · rename_i hin
        have hlen : cs.length = size := h.1 i cs hi
        have hjl : j < size := by rw [← hlen]; exact (List.getElem?_eq_some_iff.1 hj).1
        obtain ⟨v, hv, hr⟩ := h.2.2 i cs j d hi hj
        refine ⟨v, ?_, hr⟩
        simp only [List.getElem?_toArray] at hv ⊢
        rw [List.getElem?_take, if_pos (mul_lt_of hin hjl)]
        exact hv
      · simp at hi
  cases l with
  | ds l => exact fin h hn
  | cs l => exact fin h hn

theorem SliceAt.take {v : Value} {n m size : Nat} {vs : List Value} (h : SliceAt w v n vs) (hm : m ≤ n) : (∃ a cap, v = .slice a n cap) ∧ ((vs.take (m * size)).length = m * size → (Builtin.firstCells size m v).run P w = .ok (vs.take (m * size)).toArray w) := by
  obtain ⟨a, cap, rfl, h⟩ := h
  refine ⟨⟨a, cap, rfl⟩, fun hl => ?_⟩
  have : SliceAt w (.slice a m cap) m (vs.take (m * size)) := by
    refine ⟨a, cap, rfl, ?_⟩
    rcases h with h | ⟨ad, rfl, h⟩
    · exact .inl (by omega)
    · refine .inr ⟨ad, rfl, fun j u hj => h j u ?_⟩
      rw [List.getElem?_take] at hj
      split at hj
      · exact hj
      · simp at hj
  have := firstCells_ok (P := P) this hl
  cases a <;> simpa [Builtin.firstCells] using this

theorem copyR_ok (hX : RepH X) (hw : w.heap = X.H) {ts : Array TypeId} {ty : TypeId} {d x : T} {dv xv : Value} (hd : RepT X d dv) (hx : RepT X x xv) {st : Step}
    (h : (copyR P ts d x).Out X.h st) : ∃ e, st = .eff e ∧ OpOK P X w (do pure (.value (← Builtin.copy_ ts ty #[dv, xv]))) e := by
  unfold copyR at h
  split at h
  · rename_i dt xt h0 h1
    split at h
    · rename_i elem _ he hxt
      have ht := slElem_eq he
      split at h
      · rename_i size hs
        cases hz : Nat.beq size 0 with
        | true => rw [hz] at h; simp at h
        | false =>
          rw [hz] at h
          simp only at h
          rw [Rd.out_bind] at h
          obtain ⟨n, hn, h⟩ := h
          rw [Rd.out_bind] at h
          obtain ⟨l, hl, h⟩ := h
          obtain ⟨vs, hvl, hsrc, hxv⟩ := srcOf_ok hX hw hx hl
          obtain ⟨a, c, rfl⟩ := lenR_ok hd hn
          have hmin : Nat.min l.len n ≤ l.len := Nat.min_le_left _ _
          have htl : (vs.take (Nat.min l.len n * size)).length = Nat.min l.len n * size := by
            rw [List.length_take, hvl]; exact Nat.min_eq_left (Nat.mul_le_mul_right _ hmin)
          have hfc := (SliceAt.take (P := P) hxv hmin (size := size)).2 htl
          have hlen := lenOf_ok (P := P) hxv
          simp only [Rd.out_br, effR, Rd.out_ret] at h
          rcases h with ⟨hm, rfl⟩ | ⟨hm, h⟩
          · have hm := Nat.eq_of_beq_eq_true hm
            refine ⟨_, rfl, OpOK.val hX hw (v := .int .i64 0) ?_ (.one _ _ (.d _ _ (.v _ rfl)))⟩
            rw [hm] at hfc
            simp only [Nat.zero_mul, List.take_zero] at hfc
            cases a <;> simp [Builtin.copy_, h0, run_underlying ht, hlen, hm, run_sizeOf hs, hfc, storeCells, goInt]
          · split at h
            · rename_i id ver e hp
              rw [Rd.out_bind] at h
              obtain ⟨b, hb, h⟩ := h
              split at h
              · rename_i sz n' hr
                cases hsz : Nat.beq sz size with
                | false => rw [hsz] at h; simp at h
                | true =>
                  obtain rfl := Nat.eq_of_beq_eq_true hsz
                  rw [hsz] at h
                  simp only at h
                  rw [Rd.out_bind] at h
                  obtain ⟨b', hb', h⟩ := h
                  simp only [Rd.out_ret] at h
                  subst h
                  obtain ⟨en, hen, hv, rfl⟩ := block_out hb
                  obtain ⟨off, len, cap, heq, hoff⟩ := placeOf_ok hp hd hen hv hr
                  simp at heq
                  obtain ⟨rfl, rfl, rfl⟩ := heq
                  have hne : Nat.min l.len n ≠ 0 := by intro e; rw [e] at hm; simp at hm
                  have hoff : off = e * sz := by
                    rcases hoff with h | h
                    · exact h
                    · exact absurd (Nat.le_zero.1 (h ▸ Nat.min_le_right l.len n)) hne
                  subst hoff
                  obtain ⟨w', X', a1, a2, a3, a4, a5, a6, a7, a8, a9⟩ := spliceBlk_ok (P := P) hX hw hen hr hb' (hsrc.take hmin) (by rw [Src.len_take _ _ hmin]; exact htl)
                  refine ⟨_, rfl, .value (.int .i64 (Nat.min l.len n : Nat)), _, w', X', ?_, .inl rfl, a2, by rw [← hv]; exact a3, a5, a6, .one _ _ (.d _ _ (.v _ rfl))⟩
                  simp [Builtin.copy_, h0, run_underlying ht, hlen, run_sizeOf hs, hfc, a1, goInt]
              · simp at h
            · simp at h
      · simp at h
    · simp at h
  · simp at h

theorem clearR_ok (hX : RepH X) (hw : w.heap = X.H) {ts : Array TypeId} {ty : TypeId} {d : T} {dv : Value} (hd : RepT X d dv) {st : Step}
    (h : (clearR P ts d).Out X.h st) : ∃ e, st = .eff e ∧ OpOK P X w (do pure (.value (← Builtin.clear_ ts ty #[dv]))) e := by
  have unit : ∀ X : Ctx, RepT X unitT (.tuple #[]) := fun X => .tup [] [] rfl (by simp)
  unfold clearR at h
  split at h
  · rename_i dt h0
    split at h
    · rename_i elem he
      have ht := slElem_eq he
      split at h
      · rename_i z hz
        obtain ⟨zv, hzv, rfl, h1⟩ := zeroCs_ok hz
        rw [Rd.out_bind] at h
        obtain ⟨n, hn, h⟩ := h
        obtain ⟨a, c, rfl⟩ := lenR_ok hd hn
        simp only [Rd.out_br, effR, Rd.out_ret] at h
        rcases h with ⟨hm, rfl⟩ | ⟨hm, h⟩
        · obtain rfl := Nat.eq_of_beq_eq_true hm
          refine ⟨_, rfl, OpOK.val hX hw (v := .tuple #[]) ?_ (unit X)⟩
          cases a <;> simp [Builtin.clear_, h0, run_underlying ht]
        · split at h
          · rename_i id ver e hp
            rw [Rd.out_bind] at h
            obtain ⟨b, hb, h⟩ := h
            split at h
            · rename_i sz n' hr
              cases hsz : Nat.beq sz (zv.cells.toList.map D.v).length with
              | false => rw [hsz] at h; simp at h
              | true =>
                cases hs0 : Nat.beq sz 0 with
                | true => rw [hsz, hs0] at h; simp at h
                | false =>
                  rw [hsz, hs0] at h
                  have hszl := Nat.eq_of_beq_eq_true hsz
                  simp only [List.length_map, Array.length_toList] at hszl
                  simp only at h
                  rw [Rd.out_bind] at h
                  obtain ⟨b', hb', h⟩ := h
                  simp only [Rd.out_ret] at h
                  subst h
                  obtain ⟨en, hen, hv, rfl⟩ := block_out hb
                  obtain ⟨off, len, cap, heq, hoff⟩ := placeOf_ok hp hd hen hv hr
                  simp at heq
                  obtain ⟨rfl, rfl, rfl⟩ := heq
                  have hn0 : n ≠ 0 := by intro e; rw [e] at hm; simp at hm
                  have hoff : off = e * sz := hoff.resolve_right hn0
                  subst hoff
                  have hzl : (Builtin.zeroCells zv.cells n).toList.length = n * sz := by rw [Array.length_toList, size_zeroCells, hszl]
                  have hsrc : SrcOK X sz (Builtin.zeroCells zv.cells n).toList (.ds (List.replicate n (zv.cells.toList.map .v))) := by
                    refine ⟨fun i cs hi => ?_, by simp [size_zeroCells, hszl], fun i cs j d hi hj => ?_⟩
                    · rw [List.getElem?_replicate] at hi
                      split at hi
                      · simp at hi; subst hi; simp [hszl]
                      · simp at hi
                    · rw [List.getElem?_replicate] at hi
                      split at hi
                      · rename_i hin
                        simp at hi
                        subst hi
                        obtain ⟨v, hv1, hr1⟩ := vals_row (X := X) h1 j d hj
                        have hjl : j < sz := by have := (List.getElem?_eq_some_iff.1 hv1).1; simpa [hszl] using this
                        refine ⟨v, ?_, hr1⟩
                        have hk := mul_lt_of hin hjl
                        have hs1 : 0 < sz := Nat.zero_lt_of_lt hjl
                        have hmod : (i * sz + j) % sz = j := by rw [Nat.mul_comm, Nat.mul_add_mod, Nat.mod_eq_of_lt hjl]
                        have hjz : j < zv.cells.size := by rw [← hszl]; exact hjl
                        simp only [Builtin.zeroCells, Array.toArray_toList]
                        rw [Array.getElem?_map, Array.getElem?_range, if_pos (by rw [← hszl]; exact hk)]
                        simp only [Option.map_some]
                        rw [← hszl, hmod]
                        rw [show zv.cells[j]! = zv.cells[j] from getElem!_pos zv.cells j hjz]
                        have : zv.cells.toList[j]? = some zv.cells[j] := by simp [hjz]
                        rw [this] at hv1
                        exact hv1
                      · simp at hi
                  obtain ⟨w', X', a1, a2, a3, a4, a5, a6, a7, a8, a9⟩ := spliceBlk_ok (P := P) hX hw hen hr hb' hsrc (by simp only [Src.len, List.length_replicate]; exact hzl)
                  refine ⟨_, rfl, .value (.tuple #[]), _, w', X', ?_, .inl rfl, a2, by rw [← hv]; exact a3, a5, a6, unit X'⟩
                  simp [Builtin.clear_, h0, run_underlying ht, hn0, run_zeroValue hzv, a1]
            · simp at h
          · simp at h
      · simp at h
    · simp at h
  · simp at h
end
end Go.Ex
