/- Exec, part M: writing to maps, new maps, indices, function values; data out of references. -/
import Derived.Test.YtfnpmhhlhlbclaaDoorExL
namespace Go.Ex

section
variable {P : Program} {X : Ctx} {w : World}

theorem setObj_run {r : Nat} {es : Array MapEntry} {clock : Nat} (o : Obj) (h : w.heap[r]? = some (.map es clock)) : (setObj r o).run P w = .ok () { w with heap := w.heap.setIfInBounds r o } := by
  simp [setObj, Sem.run, h]

theorem mapUpdateR_ok (hX : RepH X) (hw : w.heap = X.H) {t : TypeId} {m k x : T} {mv kv xv : Value} (hm : RepT X m mv) (hk : RepT X k kv) (hx : RepT X x xv) {st : Step}
    (h : (mapUpdateR P t m k x).Out X.h st) : ∃ e, st = .eff e ∧ OpOK P X w (do Instr.mapUpdate t mv kv xv; pure .skip) e := by
  unfold mapUpdateR at h
  split at h
  · rename_i kt et kv' hu hkv
    obtain rfl := toValue_eq hkv hk
    split at h
    · rename_i hc
      have hck : (Instr.checkKey false 10000 kt kv).run P w = .ok () w := pureRun_ok _ hc w
      split at h
      · rename_i id ver
        rw [Rd.out_bind] at h
        obtain ⟨bk, hbk, h⟩ := h
        obtain ⟨en, hen, hv, rfl⟩ := block_out hbk
        split at h
        · rename_i ents hents
          obtain ⟨rfl, es, clock, ho, hsz, hr⟩ := mp_at hX hw hm hen hv hents
          have hlt : X.ρ id < w.heap.size := (Array.getElem?_eq_some_iff.1 ho).1
          have key : ∀ (es' : Array MapEntry) (clock' : Nat) (ents' : List (Value × T)), es'.size = ents'.length →
              (∀ X', Le X X' → ∀ (i : Nat) (k : Value) (t : T), ents'[i]? = some (k, t) → ∃ e, es'[i]? = some e ∧ e.key = k ∧ RepT X' t e.val) →
              (Instr.mapUpdate t (.map (some (X.ρ id))) kv xv).run P w = .ok () { w with heap := w.heap.setIfInBounds (X.ρ id) (.map es' clock') } →
              OpOK P X w (do Instr.mapUpdate t (.map (some (X.ρ id))) kv xv; pure .skip) { val := .any, ws := [(id, { ver := ver, blk := .mp ents' })] } := by
            intro es' clock' ents' h1 h2 h3
            have hlive : en.blk.live = true := by rw [hents]; rfl
            have u := upd_write X id en { ver := ver, blk := .mp ents' } (.map es' clock') hen hlive (.inr ⟨hv, fun q hq => by simp [Blk.row] at hq, fun _ => by rw [hents]; rfl⟩) (fun hq => by simp [Blk.row] at hq)
            have le := u.le hX
            have hrep : RepB (X.write id { ver := ver, blk := .mp ents' } (.map es' clock')) id (.mp ents') := by
              refine ⟨es', clock', ?_, h1, h2 _ le⟩
              simp only [Ctx.write]
              rw [Array.getElem?_setIfInBounds_self_of_lt (by rw [← hw]; exact hlt)]
            exact ⟨.skip, undef, { w with heap := w.heap.setIfInBounds (X.ρ id) (.map es' clock') }, _, by simp [h3], .inr ⟨rfl, rfl⟩, ⟨by simp [Ctx.write, hw], rfl⟩, rfl, le, u.rep hX hrep, .any _⟩
          split at h
          · rename_i i hf
            obtain ⟨r', h1, h2, h3⟩ := mapFind_ok hsz hr hf
            cases r' with
            | none => simp at h2
            | some p =>
              obtain ⟨j, v⟩ := p
              simp only [Option.map_some, Option.some.injEq] at h2
              subst h2
              obtain ⟨e, h4, rfl⟩ := h3 j v rfl
              have hjl : j < ents.length := by rw [← hsz]; exact (Array.getElem?_eq_some_iff.1 h4).1
              obtain ⟨e', h5, h6, h7⟩ := hr j _ _ (List.getElem?_eq_getElem hjl)
              rw [h4] at h5
              cases h5
              split at h
              · rename_i hsame
                simp only [Rd.out_ret] at h
                subst h
                have hold : (ents.getD j (kv, .any)).1 = e.key := by simp [List.getD, List.getElem?_eq_getElem hjl, h6]
                rw [hold] at hsame
                refine ⟨_, rfl, key (es.modify j fun e => { e with key := kv, val := xv }) clock _ (by simp [hsz]) (fun X' le i k' t' hi => ?_) ?_⟩
                · rw [List.getElem?_set] at hi
                  rw [Array.getElem?_modify]
                  by_cases hij : j = i
                  · subst hij
                    simp only [if_true, hjl] at hi
                    cases hi
                    rw [if_pos rfl, h4]
                    exact ⟨_, rfl, rfl, hx.mono le⟩
                  · simp only [hij, if_false] at hi
                    rw [if_neg hij]
                    obtain ⟨e2, g1, g2, g3⟩ := hr i k' t' hi
                    exact ⟨e2, g1, g2, g3.mono le⟩
                · simp [Instr.mapUpdate, run_underlying hu, getObj_ok ho, hck, h1, h4, Instr.keyThatStays, hsame, setObj_run (P := P) _ ho]
              · simp at h
          · rename_i hf
            obtain ⟨r', h1, h2, _⟩ := mapFind_ok hsz hr hf
            cases r' with
            | some p => simp at h2
            | none =>
              simp only [Rd.out_ret] at h
              subst h
              refine ⟨_, rfl, key (es.push { key := kv, val := xv, born := clock }) (clock + 1) _ (by simp [hsz]) (fun X' le i k' t' hi => ?_) ?_⟩
              · rw [Array.getElem?_push]
                rcases Nat.lt_trichotomy i ents.length with hlt | rfl | hgt
                · rw [List.getElem?_append_left hlt] at hi
                  obtain ⟨e2, g1, g2, g3⟩ := hr i k' t' hi
                  rw [if_neg (by omega)]
                  exact ⟨e2, g1, g2, g3.mono le⟩
                · rw [List.getElem?_append_right (Nat.le_refl _)] at hi
                  simp at hi
                  obtain ⟨rfl, rfl⟩ := hi
                  rw [if_pos hsz.symm]
                  exact ⟨_, rfl, rfl, hx.mono le⟩
                · rw [List.getElem?_eq_none (by simp; omega)] at hi
                  simp at hi
              · simp [Instr.mapUpdate, run_underlying hu, getObj_ok ho, hck, h1, setObj_run (P := P) _ ho]
          · simp at h
        · simp at h
      · simp at h
    · simp at h
  · simp at h

theorem makeMap_ok (hX : RepH X) (hw : w.heap = X.H) {site : Nat} {t : TypeId} :
    OpOK P X w (do pure (.value (← Instr.makeMap t none))) { val := .one (.mp site (nextVer (X.h site))), ws := [(site, { ver := nextVer (X.h site), blk := .mp [] })] } := by
  refine new_ok (t := fun n => .one (.mp site n)) (o := .map #[] 0) hX (v := .map (some w.heap.size)) (w' := { w with heap := w.heap.push (.map #[] 0) }) (by simp [Instr.makeMap, newObj, Sem.run]) ⟨by simp [hw], rfl⟩ (fun X' le hρ hH => ?_) (fun X' le hρ hH hh => ?_)
  · exact ⟨#[], 0, by rw [hρ]; exact hH, rfl, by simp⟩
  · exact .one _ _ (.mp site _ _ _ rfl hh (Nat.le_refl _) fun _ _ => by rw [hρ, hw])

theorem index_string_ok (hX : RepH X) (hw : w.heap = X.H) {t : TypeId} {s : ByteArray} {k : IntKind} {i : Int} (hu : P.underlying t = some .string) (h0 : 0 ≤ i) (h1 : i < (s.size : Int)) :
    OpOK P X w (do pure (.value (← Instr.index t (.string s) (.int k i)))) { val := intT .u8 (s.data.toList.getD i.toNat 0).toNat, ws := [] } := by
  have hlt : i.toNat < s.size := by omega
  refine OpOK.val hX hw (v := .int .u8 (s.data.toList.getD i.toNat 0).toNat) ?_ (.one _ _ (.d _ _ (.v _ rfl)))
  have hg : s[i.toNat]? = some (s.data.toList.getD i.toNat 0) := by
    rw [getElem?_pos s i.toNat hlt]
    congr 1
    have : i.toNat < s.data.toList.length := by simpa using hlt
    simp [List.getD, List.getElem?_eq_getElem this]
    rfl
  simp [Instr.index, asIntOf, run_underlying hu, h0, hg]

theorem index_array_run {t elem : TypeId} {n size : Nat} {cs : Array Value} {k : IntKind} {i : Int} (hu : P.underlying t = some (.array n elem)) (hs : sizeOf? P elem = some size) (h0 : 0 ≤ i) (h1 : i < (n : Int)) (w : World) :
    (Instr.index t (.agg cs) (.int k i)).run P w = (part elem cs (i.toNat * size)).run P w := by
  have : 0 ≤ i ∧ i < (n : Int) := ⟨h0, h1⟩
  simp [Instr.index, asIntOf, run_underlying hu, this, run_sizeOf hs]

theorem capsOf_ok : ∀ {ts : List T} {caps : List C} {vs : List Value}, capsOf ts = some caps → vs.length = ts.length → (∀ (j : Nat) (t : T) (v : Value), ts[j]? = some t → vs[j]? = some v → RepT X t v) →
    vs.length = caps.length ∧ ∀ (j : Nat) (c : C) (v : Value), caps[j]? = some c → vs[j]? = some v → RepC X c v
  | [], caps, vs, h, hl, _ => by simp [capsOf] at h; subst h; exact ⟨by simpa using hl, by simp⟩
  | t :: ts, caps, vs, h, hl, hr => by
    unfold capsOf at h
    split at h
    · rename_i heq; simp at heq
    · rename_i c r heq
      simp only [List.cons.injEq] at heq
      obtain ⟨rfl, rfl⟩ := heq
      split at h
      · rename_i l hcl
        simp only [Option.some.injEq] at h
        subst h
        cases vs with
        | nil => simp at hl
        | cons v vs =>
          have ih := capsOf_ok hcl (by simpa using hl) fun j t v h1 h2 => hr (j + 1) t v (by simpa using h1) (by simpa using h2)
          refine ⟨by simp [ih.1], fun j c v h1 h2 => ?_⟩
          cases j with
          | zero =>
            simp at h1 h2; subst h1; subst h2
            have := hr 0 _ _ rfl rfl
            cases this with | one _ _ h => exact h
          | succ j => exact ih.2 j c v (by simpa using h1) (by simpa using h2)
      · simp at h
    · simp at h

/-! ### data out of references -/
/-- what never changes while the call's own blocks of a set lie still -/
def Ctx.Zl (X : Ctx) (L : Nat → Prop) (b : Nat) : Prop := ¬ X.F b ∧ ∀ id en, X.h id = some en → en.blk.live = true → ¬ L id → X.ρ id ≠ b

variable {L : Nat → Prop}

theorem RepD.loose {d : D} {v : Value} (h : RepD X.H X.Z d v) : RepD X.H (X.Zl L) d v := h.mono ⟨Nat.le_refl _, fun _ _ hz => ⟨rfl, hz.2, fun id en h hl _ => hz.1 id en h hl⟩⟩

theorem own_zl (hX : RepH X) {id : Nat} {en : Ent} (h : X.h id = some en) (hl : en.blk.live = true) (hL : L id) : X.Zl L (X.ρ id) :=
  ⟨hX.own id en h hl, fun id' en' h' hl' hn he => hn (by rw [hX.inj id' en' id en h' h hl' hl he]; exact hL)⟩

theorem block_L {h : Nat → Option Ent} {id ver : Nat} {b : Blk} (o : (block id ver).OutIn h L b) : L id := by
  unfold block at o
  rw [Rd.outIn_get] at o
  exact o.1

/-- a row of cells as a slice's elements -/
theorem ro_of_row {H : Array Obj} {Z : Nat → Prop} {sz b off e n cap : Nat} {c : Array Value} {ty : TypeId} {ds : List (List D)} (hZ : Z b) (hH : H[b]? = some (.cells c ty (0, 0))) (hcap : ds.length ≤ cap) (ho : ds ≠ [] → off = e * sz)
    (hsz : ∀ (i : Nat) (cs : List D), ds[i]? = some cs → cs.length = sz)
    (hr : ∀ (i : Nat) (cs : List D) (j : Nat) (d : D), ds[i]? = some cs → cs[j]? = some d → ∃ v, c[(e + i) * sz + j]? = some v ∧ RepD H Z d v) (hn : n = ds.length) :
    RepD H Z (.ro false sz ds) (.slice (some ⟨b, off, none⟩) n cap) := by
  subst hn
  refine .ro sz ds b off cap (fun i j => (c[(e + i) * sz + j]?).getD undef) hcap hsz (fun _ => ⟨hZ, (Array.getElem?_eq_some_iff.1 hH).1⟩) (fun i cs j d h1 h2 => ?_) (fun i cs j d h1 h2 => ?_)
  · obtain ⟨v, h3, _⟩ := hr i cs j d h1 h2
    have : ds ≠ [] := by intro e; simp [e] at h1
    rw [ho this]
    unfold cellAt
    rw [hH]
    simp only [h3, Option.getD_some]
    rw [← h3, Nat.add_mul, Nat.add_assoc]
  · obtain ⟨v, h3, h4⟩ := hr i cs j d h1 h2
    simpa [h3] using h4

theorem pro_of_row {H : Array Obj} {Z : Nat → Prop} {b off : Nat} {c : Array Value} {ty : TypeId} {ds : List D} (hZ : Z b) (hH : H[b]? = some (.cells c ty (0, 0)))
    (hr : ∀ (j : Nat) (d : D), ds[j]? = some d → ∃ v, c[off + j]? = some v ∧ RepD H Z d v) :
    RepD H Z (.pro ds) (.pointer (some ⟨b, off, none⟩)) := by
  refine .pro ds b off (fun j => (c[off + j]?).getD undef) (fun _ => ⟨hZ, (Array.getElem?_eq_some_iff.1 hH).1⟩) (fun j d h1 => ?_) (fun j d h1 => ?_)
  · obtain ⟨v, h3, _⟩ := hr j d h1
    unfold cellAt
    rw [hH]
    simp [h3]
  · obtain ⟨v, h3, h4⟩ := hr j d h1
    simpa [h3] using h4

mutual
theorem resC_ok (hX : RepH X) : ∀ (n : Nat) {c : C} {d : D} {v : Value}, (resC n c).OutIn X.h L d → RepC X c v → RepD X.H (X.Zl L) d v
  | n, .any, d, v, h, _ => by cases n <;> simp [resC] at h
  | n, .d x, d, v, h, hr => by
    have : x = d := by cases n <;> simpa [resC] using h
    subst this
    exact (RepD.of_c hr).loose
  | 0, .ptr .., d, v, h, _ => by simp [resC] at h
  | 0, .own .., d, v, h, _ => by simp [resC] at h
  | 0, .sl .., d, v, h, _ => by simp [resC] at h
  | 0, .mp .., d, v, h, _ => by simp [resC] at h
  | 0, .fn .., d, v, h, _ => by simp [resC] at h
  | n + 1, .mp .., d, v, h, _ => by simp [resC] at h
  | n + 1, .ptr id ver e o, d, v, h, hr => by
    simp only [resC] at h
    rw [Rd.outIn_bind] at h
    obtain ⟨bk, hbk, h⟩ := h
    have hLid := block_L hbk
    obtain ⟨en, hen, hv, rfl⟩ := block_out hbk.out
    have hB := hX.blk id en hen
    cases hr with | ptr _ _ _ _ en0 _ _ hh0 hvv hp =>
    rw [hen] at hh0
    obtain rfl := Option.some.inj hh0
    split at h
    · rename_i sz es hk
      simp only [Rd.outIn_br, Rd.outIn_fail, and_false, or_false, Rd.outIn_ret] at h
      obtain ⟨h1, h2, rfl⟩ := h
      obtain rfl := hp hv.symm sz es.length (by rw [hk]; rfl)
      rw [hk] at hB
      obtain ⟨c, ty, hH, hsz, hle, hc⟩ := hB
      have hlt : e < es.length := Nat.le_of_ble_eq_true h1
      refine pro_of_row (own_zl hX hen (by rw [hk]; rfl) hLid) hH fun j d hj => ?_
      rw [List.getElem?_drop] at hj
      obtain ⟨v, a1, a2⟩ := hc e _ (o + j) d (getD_some hlt) hj
      exact ⟨v, by rw [Nat.add_assoc]; exact a1, a2.loose⟩
    · rename_i sz es hk
      simp only [Rd.outIn_br, Rd.outIn_fail, and_false, or_false] at h
      obtain ⟨h1, h2, h⟩ := h
      rw [Rd.outIn_bind] at h
      obtain ⟨l, h3, h⟩ := h
      simp only [Rd.outIn_ret] at h
      subst h
      obtain rfl := hp hv.symm sz es.length (by rw [hk]; rfl)
      rw [hk] at hB
      obtain ⟨c, ty, hH, hsz, hle, hc⟩ := hB
      have hlt : e < es.length := Nat.le_of_ble_eq_true h1
      obtain ⟨l1, l2⟩ := resCs_ok hX n h3
      refine pro_of_row (own_zl hX hen (by rw [hk]; rfl) hLid) hH fun j d hj => ?_
      have hjl : j < ((es.getD e []).drop o).length := by rw [← l1]; exact (List.getElem?_eq_some_iff.1 hj).1
      have hcj := List.getElem?_eq_getElem hjl
      have hcj' := hcj
      rw [List.getElem?_drop] at hcj'
      obtain ⟨v, a1, a2⟩ := hc e _ (o + j) _ (getD_some hlt) hcj'
      exact ⟨v, by rw [Nat.add_assoc]; exact a1, l2 j _ d v hcj hj a2⟩
    · simp at h
  | n + 1, .own id ver, d, v, h, hr => by
    simp only [resC] at h
    rw [Rd.outIn_bind] at h
    obtain ⟨bk, hbk, h⟩ := h
    have hLid := block_L hbk
    obtain ⟨en, hen, hv, rfl⟩ := block_out hbk.out
    have hB := hX.blk id en hen
    cases hr with | own _ _ en0 _ _ hh0 hvv hp =>
    rw [hen] at hh0
    obtain rfl := Option.some.inj hh0
    split at h
    · rename_i sz es hk
      simp only [Rd.outIn_ret] at h
      subst h
      obtain ⟨cap, rfl, c1, c2⟩ := hp hv.symm sz es.length (by rw [hk]; rfl)
      rw [hk] at hB
      obtain ⟨c, ty, hH, hsz, hle, hc⟩ := hB
      refine ro_of_row (e := 0) (own_zl hX hen (by rw [hk]; rfl) hLid) hH c1 (fun _ => by simp) hsz (fun i cs j d a b => ?_) rfl
      obtain ⟨v, a1, a2⟩ := hc i cs j d a b
      exact ⟨v, by simpa using a1, a2.loose⟩
    · rename_i sz es hk
      rw [Rd.outIn_bind] at h
      obtain ⟨l, h3, h⟩ := h
      simp only [Rd.outIn_ret] at h
      subst h
      obtain ⟨cap, rfl, c1, c2⟩ := hp hv.symm sz es.length (by rw [hk]; rfl)
      rw [hk] at hB
      obtain ⟨c, ty, hH, hsz, hle, hc⟩ := hB
      obtain ⟨l1, l2⟩ := resCss_ok hX n h3
      refine ro_of_row (e := 0) (own_zl hX hen (by rw [hk]; rfl) hLid) hH (by omega) (fun _ => by simp) (fun i cs hi => ?_) (fun i cs j d a b => ?_) l1.symm
      · have hil : i < es.length := by rw [← l1]; exact (List.getElem?_eq_some_iff.1 hi).1
        obtain ⟨q1, _⟩ := l2 i _ cs (List.getElem?_eq_getElem hil) hi
        rw [q1]; exact hsz i _ (List.getElem?_eq_getElem hil)
      · have hil : i < es.length := by rw [← l1]; exact (List.getElem?_eq_some_iff.1 a).1
        obtain ⟨q1, q2⟩ := l2 i _ cs (List.getElem?_eq_getElem hil) a
        have hjl : j < es[i].length := by rw [← q1]; exact (List.getElem?_eq_some_iff.1 b).1
        obtain ⟨v, a1, a2⟩ := hc i _ j _ (List.getElem?_eq_getElem hil) (List.getElem?_eq_getElem hjl)
        exact ⟨v, by simpa using a1, q2 j _ d v (List.getElem?_eq_getElem hjl) b a2⟩
    · simp at h
  | n + 1, .sl id ver e len, d, v, h, hr => by
    simp only [resC] at h
    rw [Rd.outIn_bind] at h
    obtain ⟨bk, hbk, h⟩ := h
    have hLid := block_L hbk
    obtain ⟨en, hen, hv, rfl⟩ := block_out hbk.out
    have hB := hX.blk id en hen
    cases hr with | sl _ _ _ _ en0 _ _ hh0 hvv hp =>
    rw [hen] at hh0
    obtain rfl := Option.some.inj hh0
    split at h
    · rename_i sz es hk
      simp only [Rd.outIn_ret] at h
      subst h
      obtain ⟨off, cap, rfl, c1, c2, c3, c4⟩ := hp hv.symm sz es.length (by rw [hk]; rfl)
      rw [hk] at hB
      obtain ⟨c, ty, hH, hsz, hle, hc⟩ := hB
      have hlen : ((es.drop e).take len).length = len := by simp; omega
      have get : ∀ i (cs : List D), ((es.drop e).take len)[i]? = some cs → es[e + i]? = some cs := by
        intro i cs hi
        rw [List.getElem?_take] at hi
        split at hi
        · rw [List.getElem?_drop] at hi; exact hi
        · simp at hi
      refine ro_of_row (e := e) (own_zl hX hen (by rw [hk]; rfl) hLid) hH (by omega) (fun hne => ?_) (fun i cs hi => hsz _ cs (get i cs hi)) (fun i cs j d a b => ?_) hlen.symm
      · rcases c4 with c4 | c4
        · exact c4
        · exact absurd (List.eq_nil_of_length_eq_zero (by rw [hlen]; omega)) hne
      · obtain ⟨v, a1, a2⟩ := hc _ cs j d (get i cs a) b
        exact ⟨v, a1, a2.loose⟩
    · rename_i sz es hk
      rw [Rd.outIn_bind] at h
      obtain ⟨l, h3, h⟩ := h
      simp only [Rd.outIn_ret] at h
      subst h
      obtain ⟨off, cap, rfl, c1, c2, c3, c4⟩ := hp hv.symm sz es.length (by rw [hk]; rfl)
      rw [hk] at hB
      obtain ⟨c, ty, hH, hsz, hle, hc⟩ := hB
      have hlen : ((es.drop e).take len).length = len := by simp; omega
      have get : ∀ i (cs : List C), ((es.drop e).take len)[i]? = some cs → es[e + i]? = some cs := by
        intro i cs hi
        rw [List.getElem?_take] at hi
        split at hi
        · rw [List.getElem?_drop] at hi; exact hi
        · simp at hi
      obtain ⟨l1, l2⟩ := resCss_ok hX n h3
      refine ro_of_row (e := e) (own_zl hX hen (by rw [hk]; rfl) hLid) hH (by omega) (fun hne => ?_) (fun i cs hi => ?_) (fun i cs j d a b => ?_) (by omega)
      · rcases c4 with c4 | c4
        · exact c4
        · exact absurd (List.eq_nil_of_length_eq_zero (by rw [l1, hlen]; omega)) hne
      · have hil : i < ((es.drop e).take len).length := by rw [← l1]; exact (List.getElem?_eq_some_iff.1 hi).1
        obtain ⟨q1, _⟩ := l2 i _ cs (List.getElem?_eq_getElem hil) hi
        rw [q1]; exact hsz _ _ (get i _ (List.getElem?_eq_getElem hil))
      · have hil : i < ((es.drop e).take len).length := by rw [← l1]; exact (List.getElem?_eq_some_iff.1 a).1
        obtain ⟨q1, q2⟩ := l2 i _ cs (List.getElem?_eq_getElem hil) a
        have hjl : j < ((es.drop e).take len)[i].length := by rw [← q1]; exact (List.getElem?_eq_some_iff.1 b).1
        obtain ⟨v, a1, a2⟩ := hc _ _ j _ (get i _ (List.getElem?_eq_getElem hil)) (List.getElem?_eq_getElem hjl)
        exact ⟨v, a1, q2 j _ d v (List.getElem?_eq_getElem hjl) b a2⟩
    · simp at h
  | n + 1, .fn f caps, d, v, h, hr => by
    simp only [resC] at h
    rw [Rd.outIn_bind] at h
    obtain ⟨l, h3, h⟩ := h
    simp only [Rd.outIn_ret] at h
    subst h
    obtain ⟨l1, l2⟩ := resCs_ok hX n h3
    cases hr with | fn _ _ vs hl hr =>
    refine .fn f l vs (by omega) fun j d v h1 h2 => ?_
    have hjl : j < caps.length := by rw [← l1]; exact (List.getElem?_eq_some_iff.1 h1).1
    exact l2 j _ d v (List.getElem?_eq_getElem hjl) h1 (hr j _ v (List.getElem?_eq_getElem hjl) h2)
theorem resCs_ok (hX : RepH X) : ∀ (n : Nat) {cs : List C} {ds : List D}, (resCs n cs).OutIn X.h L ds → ds.length = cs.length ∧
    ∀ (j : Nat) (c : C) (d : D) (v : Value), cs[j]? = some c → ds[j]? = some d → RepC X c v → RepD X.H (X.Zl L) d v
  | n, [], ds, h => by
    have : ds = [] := by cases n <;> simpa [resCs, eq_comm] using h
    subst this
    exact ⟨rfl, by simp⟩
  | 0, c :: r, ds, h => by simp [resCs] at h
  | n + 1, c :: r, ds, h => by
    simp only [resCs] at h
    rw [Rd.outIn_bind] at h
    obtain ⟨x, h1, h⟩ := h
    rw [Rd.outIn_bind] at h
    obtain ⟨l, h2, h⟩ := h
    simp only [Rd.outIn_ret] at h
    subst h
    obtain ⟨l1, l2⟩ := resCs_ok hX n h2
    refine ⟨by simp [l1], fun j c' d v a b hr => ?_⟩
    cases j with
    | zero => simp at a b; subst a; subst b; exact resC_ok hX n h1 hr
    | succ j => exact l2 j c' d v (by simpa using a) (by simpa using b) hr
theorem resCss_ok (hX : RepH X) : ∀ (n : Nat) {cs : List (List C)} {ds : List (List D)}, (resCss n cs).OutIn X.h L ds → ds.length = cs.length ∧
    ∀ (i : Nat) (c : List C) (d : List D), cs[i]? = some c → ds[i]? = some d → d.length = c.length ∧ ∀ (j : Nat) (x : C) (y : D) (v : Value), c[j]? = some x → d[j]? = some y → RepC X x v → RepD X.H (X.Zl L) y v
  | n, [], ds, h => by
    have : ds = [] := by cases n <;> simpa [resCss, eq_comm] using h
    subst this
    exact ⟨rfl, by simp⟩
  | 0, c :: r, ds, h => by simp [resCss] at h
  | n + 1, c :: r, ds, h => by
    simp only [resCss] at h
    rw [Rd.outIn_bind] at h
    obtain ⟨x, h1, h⟩ := h
    rw [Rd.outIn_bind] at h
    obtain ⟨l, h2, h⟩ := h
    simp only [Rd.outIn_ret] at h
    subst h
    obtain ⟨l1, l2⟩ := resCss_ok hX n h2
    refine ⟨by simp [l1], fun i c' d a b => ?_⟩
    cases i with
    | zero => simp at a b; subst a; subst b; exact resCs_ok hX n h1
    | succ i => exact l2 i c' d (by simpa using a) (by simpa using b)
end
end
end Go.Ex
