/- Exec, part K: slicing, addresses of elements and fields, parts, comparisons with nil. -/
import Derived.Test.YtfnpmhhlhlbclaaDoorExJ
namespace Go.Ex

section
variable {P : Program} {X : Ctx} {w : World}

/-- a bound of a slice expression and the value that stands for it -/
inductive BoundOK (dflt : Nat) : Option Value → Nat → Prop where
  | none : BoundOK dflt none dflt
  | some (k : IntKind) (i : Int) (h : 0 ≤ i) : BoundOK dflt (some (.int k i)) i.toNat

theorem boundOf_ok {h : Nat → Option Ent} {dflt n : Nat} {o : Option Operand} {f : Operand → T} {g : Operand → Value} (hr : ∀ x, RepT X (f x) (g x)) (ho : (boundOf dflt (o.map f)).Out h n) : BoundOK dflt (o.map g) n := by
  cases o with
  | none => simp [boundOf] at ho; subst ho; exact .none
  | some x =>
    simp only [boundOf, Option.map_some] at ho
    cases hi : intOf? (f x) with
    | none => rw [hi] at ho; simp at ho
    | some i =>
      rw [hi] at ho
      simp only [Rd.out_br, Rd.out_ret, Rd.out_fail, and_false, or_false, decide_eq_true_eq] at ho
      obtain ⟨h0, rfl⟩ := ho
      obtain ⟨k, hk⟩ := intOf_eq hi (hr x)
      simp only [Option.map_some, hk]
      exact .some k i h0

theorem sliceBounds_ok {isSlice : Bool} {len cap : Nat} {lo hi : Option Value} {l h : Nat} (hh : BoundOK len hi h) (hl : BoundOK 0 lo l) (h1 : h ≤ cap) (h2 : l ≤ h) :
    (Instr.sliceBounds isSlice len cap lo hi none).run P w = .ok (l, h, cap) w := by
  have bound : ∀ {i : Int} {k : IntKind} {y : Nat} {code : BoundsCode}, 0 ≤ i → i.toNat ≤ y → (Instr.sliceBound (.int k i) y code).run P w = .ok i.toNat w := by
    intro i k y code h0 hy
    have : 0 ≤ i ∧ i ≤ (y : Int) := ⟨h0, by omega⟩
    simp [Instr.sliceBound, asIntOf, this]
  cases hh with
  | none =>
    cases hl with
    | none => simp [Instr.sliceBounds]
    | some k i h0 => simp [Instr.sliceBounds, bound h0 h2]
  | some k' i' h0' =>
    cases hl with
    | none => simp [Instr.sliceBounds, bound h0' h1]
    | some k i h0 => simp [Instr.sliceBounds, bound h0' h1, bound h0 h2]

theorem run_slice_slice {t elem : TypeId} {size len cap : Nat} {a : Option Addr} {lo hi : Option Value} {l h : Nat} (ht : P.underlying t = some (.slice elem)) (hs : sizeOf? P elem = some size)
    (hh : BoundOK len hi h) (hl : BoundOK 0 lo l) (h1 : h ≤ cap) (h2 : l ≤ h) :
    (Instr.sliceAt t (.slice a len cap) lo hi none).run P w = .ok (.slice (if cap = l then a else a.map (·.add (l * size))) (h - l) (cap - l)) w := by
  simp [Instr.sliceAt, Instr.slice, run_underlying ht, sliceBounds_ok (P := P) (w := w) hh hl h1 h2, run_sizeOf hs]

theorem sliceR_ok (hX : RepH X) (hw : w.heap = X.H) {t : TypeId} {x : T} {v : Value} {lo hi : Option Operand} {f : Operand → T} {g : Operand → Value} (hr : ∀ x, RepT X (f x) (g x)) (hx : RepT X x v) {st : Step}
    (h : (sliceR P t x (lo.map f) (hi.map f)).Out X.h st) : ∃ e, st = .eff e ∧ OpOK P X w (do pure (.value (← Instr.sliceAt t v (lo.map g) (hi.map g) none))) e := by
  unfold sliceR at h
  split at h
  · rename_i s hu
    rw [Rd.out_bind] at h
    obtain ⟨hh, h1, h⟩ := h
    simp only [Rd.out_br, Rd.out_fail, and_false, or_false] at h
    obtain ⟨h2, h⟩ := h
    rw [Rd.out_bind] at h
    obtain ⟨ll, h3, h⟩ := h
    simp only [Rd.out_br, Rd.out_fail, and_false, or_false, effR, Rd.out_ret] at h
    obtain ⟨h4, rfl⟩ := h
    cases hx with | one _ _ hx => cases hx with | d _ _ hx => cases hx with | v _ _ =>
    refine ⟨_, rfl, OpOK.val hX hw (v := .string (s.extract ll hh)) ?_ (.one _ _ (.d _ _ (.v _ rfl)))⟩
    simp [Instr.sliceAt, Instr.slice, run_underlying hu, sliceBounds_ok (P := P) (w := w) (isSlice := false) (boundOf_ok hr h1) (boundOf_ok hr h3) (Nat.le_of_ble_eq_true h2) (Nat.le_of_ble_eq_true h4)]
  · rename_i x _ _ elem hu
    split at h
    · simp at h
    · rename_i size hs
      have nilcase : ∀ {v : Value}, v = .slice none 0 0 → RepT X x v → ((boundOf 0 (hi.map f)).bind fun h => .br (Nat.beq h 0) ((boundOf 0 (lo.map f)).bind fun l => .br (Nat.beq l 0) (effR x) .fail) .fail : Rd Step).Out X.h st →
          ∃ e, st = .eff e ∧ OpOK P X w (do pure (.value (← Instr.sliceAt t v (lo.map g) (hi.map g) none))) e := by
        rintro v rfl hx h
        rw [Rd.out_bind] at h
        obtain ⟨hh, h1, h⟩ := h
        simp only [Rd.out_br, Rd.out_fail, and_false, or_false] at h
        obtain ⟨h2, h⟩ := h
        rw [Rd.out_bind] at h
        obtain ⟨ll, h3, h⟩ := h
        simp only [Rd.out_br, Rd.out_fail, and_false, or_false, effR, Rd.out_ret] at h
        obtain ⟨h4, rfl⟩ := h
        obtain rfl := Nat.eq_of_beq_eq_true h2
        obtain rfl := Nat.eq_of_beq_eq_true h4
        refine ⟨_, rfl, OpOK.val hX hw (v := .slice none 0 0) ?_ hx⟩
        rw [run_slice_slice hu hs (boundOf_ok hr h1) (boundOf_ok hr h3) (Nat.le_refl _) (Nat.le_refl _)]
        simp
      split at h
      · refine nilcase ?_ hx h
        cases hx with | one _ _ hx => cases hx with | d _ _ hx => cases hx; rfl
      · refine nilcase ?_ hx h
        cases hx with | one _ _ hx => cases hx with | d _ _ hx => cases hx; rfl
      · rename_i sz es
        cases hsz : Nat.beq sz size with
        | false => rw [hsz] at h; simp at h
        | true =>
          obtain rfl := Nat.eq_of_beq_eq_true hsz
          rw [hsz] at h
          simp only at h
          rw [Rd.out_bind] at h
          obtain ⟨hh, h1, h⟩ := h
          simp only [Rd.out_br, Rd.out_fail, and_false, or_false] at h
          obtain ⟨h2, h⟩ := h
          rw [Rd.out_bind] at h
          obtain ⟨ll, h3, h⟩ := h
          simp only [Rd.out_br, Rd.out_fail, and_false, or_false, effR, Rd.out_ret] at h
          obtain ⟨h4, rfl⟩ := h
          have h2 := Nat.le_of_ble_eq_true h2
          have h4 := Nat.le_of_ble_eq_true h4
          cases hx with | one _ _ hx => cases hx with | d _ _ hx =>
          cases hx with
          | roz _ a cap =>
            have e1 : hh = 0 := by simpa using h2
            have e2 : ll = 0 := by omega
            subst e1
            subst e2
            refine ⟨_, rfl, OpOK.val hX hw (run_slice_slice hu hs (boundOf_ok hr h1) (boundOf_ok hr h3) (Nat.zero_le _) (Nat.le_refl _)) (.one _ _ (.d _ _ ?_))⟩
            have e : (if cap = 0 then some a else Option.map (fun x => x.add (0 * sz)) (some a)) = some a := by
              split
              · rfl
              · simp [Addr.add]
            rw [e]
            exact .roz _ _ _
          | ro _ _ b off cap q hcap hszl hb hc hrr =>
          have hlen : ((es.take hh).drop ll).length = hh - ll := by simp; omega
          have hget : ∀ i (cs : List D), ((es.take hh).drop ll)[i]? = some cs → es[ll + i]? = some cs := by
            intro i cs hi
            rw [List.getElem?_drop, List.getElem?_take] at hi
            split at hi
            · exact hi
            · simp at hi
          refine ⟨_, rfl, OpOK.val hX hw (run_slice_slice hu hs (boundOf_ok hr h1) (boundOf_ok hr h3) (by omega) h4) (.one _ _ (.d _ _ ?_))⟩
          have base : ∀ off', (ll < hh → off' = off + ll * sz) → RepD X.H X.Z (.ro false sz ((es.take hh).drop ll)) (.slice (some ⟨b, off', none⟩) ((es.take hh).drop ll).length (cap - ll)) := by
            intro off' ho
            refine .ro sz _ b off' (cap - ll) (fun i j => q (ll + i) j) (by rw [hlen]; omega) (fun i cs hi => hszl _ cs (hget i cs hi)) (fun hne => hb fun e => hne (by simp [e])) (fun i cs j d hi hj => ?_) (fun i cs j d hi hj => hrr _ cs j d (hget i cs hi) hj)
            have hlt : i < hh - ll := by have := (List.getElem?_eq_some_iff.1 hi).1; omega
            rw [ho (by omega)]
            have := hc _ cs j d (hget i cs hi) hj
            rw [Nat.add_mul] at this
            rw [show off + ll * sz + (i * sz + j) = off + (ll * sz + i * sz + j) by omega]
            exact this
          rw [hlen] at base
          by_cases hcl : cap = ll
          · rw [if_pos hcl]
            exact base off fun h => by omega
          · rw [if_neg hcl]
            have := base (off + ll * sz) fun _ => rfl
            simpa [Addr.add_lit] using this
      · rename_i id ver
        rw [Rd.out_bind] at h
        obtain ⟨bk, hbk, h⟩ := h
        obtain ⟨en, hen, hv, rfl⟩ := block_out hbk
        split at h
        · rename_i sz n hrow
          cases hsz : Nat.beq sz size with
          | false => rw [hsz] at h; simp at h
          | true =>
            obtain rfl := Nat.eq_of_beq_eq_true hsz
            rw [hsz] at h
            simp only at h
            rw [Rd.out_bind] at h
            obtain ⟨hh, h1, h⟩ := h
            simp only [Rd.out_br, Rd.out_fail, and_false, or_false] at h
            obtain ⟨h2, h⟩ := h
            rw [Rd.out_bind] at h
            obtain ⟨ll, h3, h⟩ := h
            simp only [Rd.out_br, Rd.out_fail, and_false, or_false, effR, Rd.out_ret] at h
            obtain ⟨h4, rfl⟩ := h
            have h2 := Nat.le_of_ble_eq_true h2
            have h4 := Nat.le_of_ble_eq_true h4
            cases hx with | one _ _ hx =>
            cases hx with | own _ _ en0 _ _ hh0 hvv hp =>
            rw [hen] at hh0
            obtain rfl := Option.some.inj hh0
            obtain ⟨cap, rfl, c1, c2⟩ := hp hv.symm _ _ hrow
            refine ⟨_, rfl, OpOK.val hX hw (run_slice_slice hu hs (boundOf_ok hr h1) (boundOf_ok hr h3) (by omega) h4) (.one _ _ (.sl id ver ll (hh - ll) en _ rfl hen hvv fun _ sz' n' hq => ?_))⟩
            rw [hrow] at hq
            simp at hq
            obtain ⟨rfl, rfl⟩ := hq
            refine ⟨if cap = ll then 0 else ll * sz, cap - ll, ?_, by omega, by omega, by rw [show ll + (cap - ll) = cap by omega]; exact c2, ?_⟩
            · by_cases hcl : cap = ll <;> simp [hcl, Addr.add_lit]
            · by_cases hcl : cap = ll
              · exact .inr (by omega)
              · exact .inl (by rw [if_neg hcl])
        · simp at h
      · rename_i id ver e len
        rw [Rd.out_bind] at h
        obtain ⟨bk, hbk, h⟩ := h
        obtain ⟨en, hen, hv, rfl⟩ := block_out hbk
        split at h
        · rename_i sz n hrow
          cases hsz : Nat.beq sz size with
          | false => rw [hsz] at h; simp at h
          | true =>
            obtain rfl := Nat.eq_of_beq_eq_true hsz
            rw [hsz] at h
            simp only at h
            rw [Rd.out_bind] at h
            obtain ⟨hh, h1, h⟩ := h
            simp only [Rd.out_br, Rd.out_fail, and_false, or_false] at h
            obtain ⟨h2, h⟩ := h
            rw [Rd.out_bind] at h
            obtain ⟨ll, h3, h⟩ := h
            simp only [Rd.out_br, Rd.out_fail, and_false, or_false, effR, Rd.out_ret] at h
            obtain ⟨h4, rfl⟩ := h
            have h2 := Nat.le_of_ble_eq_true h2
            have h4 := Nat.le_of_ble_eq_true h4
            cases hx with | one _ _ hx =>
            cases hx with | sl _ _ _ _ en0 _ _ hh0 hvv hp =>
            rw [hen] at hh0
            obtain rfl := Option.some.inj hh0
            obtain ⟨off, cap, rfl, c1, c2, c3, c4⟩ := hp hv.symm _ _ hrow
            refine ⟨_, rfl, OpOK.val hX hw (run_slice_slice hu hs (boundOf_ok hr h1) (boundOf_ok hr h3) (by omega) h4) (.one _ _ (.sl id ver (e + ll) (hh - ll) en _ rfl hen hvv fun _ sz' n' hq => ?_))⟩
            rw [hrow] at hq
            simp at hq
            obtain ⟨rfl, rfl⟩ := hq
            refine ⟨if cap = ll then off else off + ll * sz, cap - ll, ?_, by omega, by omega, by rw [show e + ll + (cap - ll) = e + cap by omega]; exact c3, ?_⟩
            · by_cases hcl : cap = ll <;> simp [hcl, Addr.add_lit]
            · by_cases hcl : cap = ll
              · exact .inr (by omega)
              · rw [if_neg hcl]
                rcases c4 with c4 | c4
                · exact .inl (by rw [c4, Nat.add_mul])
                · exact .inr (by omega)
        · simp at h
      · simp at h
  · simp at h

theorem run_index_slice {t elem : TypeId} {size len cap : Nat} {a : Addr} {k : IntKind} {i : Int} (ht : P.underlying t = some (.slice elem)) (hs : sizeOf? P elem = some size) (h0 : 0 ≤ i) (h1 : i < (len : Int)) :
    (Instr.indexAt t (.slice (some a) len cap) (.int k i)).run P w = .ok (.pointer (some (a.add (i.toNat * size)))) w := by
  have : 0 ≤ i ∧ i < (len : Int) := ⟨h0, h1⟩
  simp [Instr.indexAt, run_underlying ht, asIntOf, this, run_sizeOf hs]

theorem run_index_array {t elem : TypeId} {size len : Nat} {a : Addr} {k : IntKind} {i : Int} (ht : P.underlying t = some (.array len elem)) (hs : sizeOf? P elem = some size) (h0 : 0 ≤ i) (h1 : i < (len : Int)) :
    (Instr.indexAt t (.pointer (some a)) (.int k i)).run P w = .ok (.pointer (some (a.add (i.toNat * size)))) w := by
  have : 0 ≤ i ∧ i < (len : Int) := ⟨h0, h1⟩
  simp [Instr.indexAt, run_underlying ht, asIntOf, this, run_sizeOf hs, Instr.sureAddr]

theorem pro_drop {cs : List D} {b off n : Nat} (h : RepD X.H X.Z (.pro cs) (.pointer (some ⟨b, off, none⟩))) : RepD X.H X.Z (.pro (cs.drop n)) (.pointer (some ⟨b, off + n, none⟩)) := by
  cases h with | pro _ _ _ g hb hc hr =>
  refine .pro _ b (off + n) (fun j => g (n + j)) (fun hne => hb fun e => hne (by simp [e])) (fun j d hj => ?_) (fun j d hj => ?_)
  · rw [List.getElem?_drop] at hj
    rw [Nat.add_assoc]; exact hc _ d hj
  · rw [List.getElem?_drop] at hj
    exact hr _ d hj

theorem indexAddrR_ok (hX : RepH X) (hw : w.heap = X.H) {t : TypeId} {x ix : T} {v iv : Value} (hx : RepT X x v) (hi : RepT X ix iv) {st : Step}
    (h : (indexAddrR P t x ix).Out X.h st) : ∃ e, st = .eff e ∧ OpOK P X w (do pure (.value (← Instr.indexAt t v iv))) e := by
  unfold indexAddrR at h
  split at h
  · simp at h
  · rename_i i hii
    obtain ⟨k, rfl⟩ := intOf_eq hii hi
    split at h
    · rename_i elem hu
      split at h
      · simp at h
      · rename_i size hs
        split at h
        · rename_i nl sz es
          cases hsz : Nat.beq sz size with
          | false => rw [hsz] at h; simp at h
          | true =>
            obtain rfl := Nat.eq_of_beq_eq_true hsz
            rw [hsz] at h
            simp only [Rd.out_br, Rd.out_fail, and_false, or_false, effR, Rd.out_ret, decide_eq_true_eq] at h
            obtain ⟨h0, h1, rfl⟩ := h
            cases hx with | one _ _ hx => cases hx with | d _ _ hx =>
            cases hx with
            | nil => simp at h1; omega
            | roz => simp at h1; omega
            | ro _ _ b off cap q hcap hszl hb hc hrr =>
              refine ⟨_, rfl, OpOK.val hX hw (run_index_slice hu hs h0 h1) (.one _ _ (.d _ _ ?_))⟩
              rw [Addr.add_lit]
              have hlt : i.toNat < es.length := by omega
              exact .pro _ b (off + i.toNat * sz) (fun j => q i.toNat j) (fun _ => hb (fun e => by simp [e] at hlt)) (fun j d hj => by
                have := hc _ _ j d (getD_some hlt) hj
                rw [Nat.add_assoc]; exact this) (fun j d hj => hrr _ _ j d (getD_some hlt) hj)
        · rename_i nl sz n get
          cases hsz : Nat.beq sz size with
          | false => rw [hsz] at h; simp at h
          | true =>
            obtain rfl := Nat.eq_of_beq_eq_true hsz
            rw [hsz] at h
            simp only [Rd.out_br, Rd.out_fail, and_false, or_false, effR, Rd.out_ret, decide_eq_true_eq] at h
            obtain ⟨h0, h1, rfl⟩ := h
            cases hx with | one _ _ hx => cases hx with | d _ _ hx =>
            cases hx with
            | rofn => simp at h1; omega
            | rofz => simp at h1; omega
            | rof _ _ _ b off cap q hcap hszl hb hc hrr =>
              have hlt : i.toNat < n := by omega
              refine ⟨_, rfl, OpOK.val hX hw (run_index_slice hu hs h0 h1) (.one _ _ (.d _ _ ?_))⟩
              rw [Addr.add_lit]
              exact .pro _ b (off + i.toNat * sz) (fun j => q i.toNat j) (fun _ => hb (by omega)) (fun j d hj => by
                have := hc _ j d hlt hj
                rw [Nat.add_assoc]; exact this) (fun j d hj => hrr _ j d hlt hj)
        · rename_i id ver
          rw [Rd.out_bind] at h
          obtain ⟨bk, hbk, h⟩ := h
          obtain ⟨en, hen, hv, rfl⟩ := block_out hbk
          split at h
          · rename_i sz n hrow
            cases hsz : Nat.beq sz size with
            | false => rw [hsz] at h; simp at h
            | true =>
              obtain rfl := Nat.eq_of_beq_eq_true hsz
              rw [hsz] at h
              simp only [Rd.out_br, Rd.out_fail, and_false, or_false, effR, Rd.out_ret, decide_eq_true_eq] at h
              obtain ⟨h0, h1, rfl⟩ := h
              cases hx with | one _ _ hx =>
              cases hx with | own _ _ en0 _ _ hh0 hvv hp =>
              rw [hen] at hh0
              obtain rfl := Option.some.inj hh0
              obtain ⟨cap, rfl, c1, c2⟩ := hp hv.symm _ _ hrow
              refine ⟨_, rfl, OpOK.val hX hw (run_index_slice hu hs h0 h1) (.one _ _ (.ptr id ver i.toNat 0 en _ rfl hen hvv fun _ sz' n' hq => ?_))⟩
              rw [hrow] at hq
              simp at hq
              obtain ⟨rfl, rfl⟩ := hq
              rw [Addr.add_lit]
              simp
          · simp at h
        · rename_i id ver e len
          rw [Rd.out_bind] at h
          obtain ⟨bk, hbk, h⟩ := h
          obtain ⟨en, hen, hv, rfl⟩ := block_out hbk
          split at h
          · rename_i sz n hrow
            cases hsz : Nat.beq sz size with
            | false => rw [hsz] at h; simp at h
            | true =>
              obtain rfl := Nat.eq_of_beq_eq_true hsz
              rw [hsz] at h
              simp only [Rd.out_br, Rd.out_fail, and_false, or_false, effR, Rd.out_ret, decide_eq_true_eq] at h
              obtain ⟨h0, h1, rfl⟩ := h
              cases hx with | one _ _ hx =>
              cases hx with | sl _ _ _ _ en0 _ _ hh0 hvv hp =>
              rw [hen] at hh0
              obtain rfl := Option.some.inj hh0
              obtain ⟨off, cap, rfl, c1, c2, c3, c4⟩ := hp hv.symm _ _ hrow
              refine ⟨_, rfl, OpOK.val hX hw (run_index_slice hu hs h0 h1) (.one _ _ (.ptr id ver (e + i.toNat) 0 en _ rfl hen hvv fun _ sz' n' hq => ?_))⟩
              rw [hrow] at hq
              simp at hq
              obtain ⟨rfl, rfl⟩ := hq
              rw [Addr.add_lit]
              rcases c4 with rfl | c4
              · rw [Nat.add_mul, Nat.add_zero]
              · omega
          · simp at h
        · simp at h
    · rename_i len elem hu
      split at h
      · simp at h
      · rename_i size hs
        split at h
        · rename_i id ver e o
          rw [Rd.out_bind] at h
          obtain ⟨q, hq, h⟩ := h
          obtain ⟨en, hen, hv, hrow⟩ := liveRow_out hq
          simp only [Rd.out_br, Rd.out_fail, and_false, or_false, effR, Rd.out_ret, decide_eq_true_eq] at h
          obtain ⟨h0, h1, rfl⟩ := h
          cases hx with | one _ _ hx =>
          cases hx with | ptr _ _ _ _ en0 _ _ hh0 hvv hp =>
          rw [hen] at hh0
          obtain rfl := Option.some.inj hh0
          obtain ⟨sz, n⟩ := q
          obtain rfl := hp hv.symm _ _ hrow
          refine ⟨_, rfl, OpOK.val hX hw (run_index_array hu hs h0 h1) (.one _ _ (.ptr id ver e (o + i.toNat * size) en _ rfl hen hvv fun _ sz' n' hq => ?_))⟩
          rw [hrow] at hq
          simp at hq
          obtain ⟨rfl, rfl⟩ := hq
          rw [Addr.add_lit, Nat.add_assoc]
        · rename_i cs
          simp only [Rd.out_br, Rd.out_fail, and_false, or_false, effR, Rd.out_ret, decide_eq_true_eq] at h
          obtain ⟨h0, h1, _, rfl⟩ := h
          cases hx with | one _ _ hx => cases hx with | d _ _ hx =>
          cases hx with | pro _ b off g hb hc hr =>
          refine ⟨_, rfl, OpOK.val hX hw (run_index_array hu hs h0 h1) (.one _ _ (.d _ _ ?_))⟩
          rw [Addr.add_lit]
          exact pro_drop (.pro cs b off g hb hc hr)
        · simp at h
    · simp at h

def fieldAddrR (fd : Field) : T → Rd Step
  | .one (.ptr id ver e off) => (liveRow id ver).bind fun _ => effR (.one (.ptr id ver e (off + fd.offset)))
  | .one (.d (.pro cs)) => .br (Nat.ble fd.offset cs.length) (effR (.one (.d (.pro (cs.drop fd.offset))))) .fail
  | _ => .fail

theorem fieldAddr_ok (hX : RepH X) (hw : w.heap = X.H) {s : TypeId} {f n : Nat} {fd : Field} {x : T} {v : Value} (hf : fieldOf? P s f = some fd) (hs : sizeOf? P fd.type = some n) (hn : Nat.beq n 0 = false) (hx : RepT X x v) {st : Step}
    (h : (fieldAddrR fd x).Out X.h st) : ∃ e, st = .eff e ∧ OpOK P X w (do pure (.value (← Instr.fieldAt s v f))) e := by
  have hn0 : n ≠ 0 := by intro e; rw [e] at hn; simp at hn
  have hrun : ∀ {b off : Nat}, (Instr.fieldAt s (.pointer (some ⟨b, off, none⟩)) f).run P w = .ok (.pointer (some ⟨b, off + fd.offset, none⟩)) w := by
    intro b off
    unfold fieldOf? at hf
    split at hf
    · rename_i fields hu
      simp [Instr.fieldAt, run_underlying hu, hf, Instr.sureAddr, fieldPlace, run_sizeOf hs, hn0, Addr.add_lit]
    · simp at hf
  unfold fieldAddrR at h
  split at h
  · rename_i id ver e off
    rw [Rd.out_bind] at h
    obtain ⟨q, hq, h⟩ := h
    obtain ⟨en, hen, hv, hrow⟩ := liveRow_out hq
    simp only [effR, Rd.out_ret] at h
    subst h
    cases hx with | one _ _ hx =>
    cases hx with | ptr _ _ _ _ en0 _ _ hh0 hvv hp =>
    rw [hen] at hh0
    obtain rfl := Option.some.inj hh0
    obtain ⟨sz, m⟩ := q
    obtain rfl := hp hv.symm _ _ hrow
    refine ⟨_, rfl, OpOK.val hX hw hrun (.one _ _ (.ptr id ver e (off + fd.offset) en _ rfl hen hvv fun _ sz' n' hq => ?_))⟩
    rw [hrow] at hq
    simp at hq
    obtain ⟨rfl, rfl⟩ := hq
    rw [Nat.add_assoc]
  · rename_i cs
    simp only [Rd.out_br, Rd.out_fail, and_false, or_false, effR, Rd.out_ret] at h
    obtain ⟨_, rfl⟩ := h
    cases hx with | one _ _ hx => cases hx with | d _ _ hx =>
    cases hx with | pro _ b off g hb hc hr =>
    exact ⟨_, rfl, OpOK.val hX hw hrun (.one _ _ (.d _ _ (pro_drop (.pro cs b off g hb hc hr))))⟩
  · simp at h

/-- a part of an aggregate -/
theorem partR_ok (hX : RepH X) (hw : w.heap = X.H) {t : TypeId} {cs : List C} {vs : List Value} {off : Nat} (hl : vs.length = cs.length) (hr : ∀ (j : Nat) (c : C) (v : Value), cs[j]? = some c → vs[j]? = some v → RepC X c v) {st : Step}
    (h : (partR P t cs off).Out X.h st) : ∃ e, st = .eff e ∧ OpOK P X w (do pure (.value (← part t vs.toArray off))) e := by
  unfold partR at h
  split at h
  · rename_i agg size ha hs
    rw [Rd.out_bind] at h
    obtain ⟨r, h1, h⟩ := h
    simp only [effR, Rd.out_ret] at h
    subst h
    cases agg with
    | true =>
      simp only [valueOf, Rd.out_br, Rd.out_fail, and_false, or_false, Rd.out_ret] at h1
      obtain ⟨hle, rfl⟩ := h1
      have hle := Nat.le_of_ble_eq_true hle
      simp only [List.length_drop] at hle
      refine ⟨_, rfl, OpOK.val hX hw (v := .agg (vs.toArray.extract off (off + size))) (by simp [part, run_isAgg ha, run_sizeOf hs]) ?_⟩
      have : vs.toArray.extract off (off + size) = ((vs.drop off).take size).toArray := by
        apply Array.ext'
        simp [List.extract_eq_take_drop]
      rw [this]
      refine .agg _ _ (by simp; omega) fun j c v hj hv => ?_
      rw [List.getElem?_take] at hj hv
      by_cases hj0 : j < size
      · rw [if_pos hj0, List.getElem?_drop] at hj hv
        exact hr _ c v hj hv
      · rw [if_neg hj0] at hj; simp at hj
    | false =>
      cases hd : cs.drop off with
      | nil => rw [hd] at h1; simp [valueOf] at h1
      | cons c rest =>
        rw [hd] at h1
        simp only [valueOf, Rd.out_ret] at h1
        subst h1
        have hc : cs[off]? = some c := by
          have : (cs.drop off)[0]? = some c := by rw [hd]; rfl
          rw [List.getElem?_drop] at this
          simpa using this
        have hlt : off < vs.length := by rw [hl]; exact (List.getElem?_eq_some_iff.1 hc).1
        refine ⟨_, rfl, OpOK.val hX hw (v := vs[off]) (by simp [part, run_isAgg ha, hlt]) (.one _ _ (hr off c _ hc (List.getElem?_eq_getElem hlt)))⟩
  · simp at h

/-! ### comparisons with nil -/
theorem isNilR_ok {x : T} {b : Bool} {v : Value} (hx : RepT X x v) (h : (isNilR x).Out X.h b) : (kindT x = 0 ∧ ∃ a n c, v = .slice a n c ∧ b = a.isNone) ∨ (kindT x = 1 ∧ ∃ a, v = .pointer a ∧ b = a.isNone) ∨ (kindT x = 2 ∧ ∃ r, v = .map r ∧ b = r.isNone) := by
  unfold isNilR at h
  split at h
  · simp at h; subst h
    cases hx with | one _ _ hx => cases hx with | d _ _ hx => cases hx; exact .inl ⟨rfl, _, _, _, rfl, rfl⟩
  · simp at h; subst h
    cases hx with | one _ _ hx => cases hx with | d _ _ hx =>
      cases hx with
      | nil => exact .inl ⟨rfl, _, _, _, rfl, rfl⟩
      | ro => exact .inl ⟨rfl, _, _, _, rfl, rfl⟩
      | roz => exact .inl ⟨rfl, _, _, _, rfl, rfl⟩
  · rw [Rd.out_bind] at h
    obtain ⟨q, hq, h⟩ := h
    obtain ⟨en, hen, hv, hrow⟩ := liveRow_out hq
    simp at h; subst h
    cases hx with | one _ _ hx =>
    cases hx with | own _ _ en0 _ _ hh0 hvv hp =>
    rw [hen] at hh0
    obtain rfl := Option.some.inj hh0
    obtain ⟨cap, rfl, _⟩ := hp hv.symm _ _ hrow
    exact .inl ⟨rfl, _, _, _, rfl, rfl⟩
  · rw [Rd.out_bind] at h
    obtain ⟨q, hq, h⟩ := h
    obtain ⟨en, hen, hv, hrow⟩ := liveRow_out hq
    simp at h; subst h
    cases hx with | one _ _ hx =>
    cases hx with | sl _ _ _ _ en0 _ _ hh0 hvv hp =>
    rw [hen] at hh0
    obtain rfl := Option.some.inj hh0
    obtain ⟨off, cap, rfl, _⟩ := hp hv.symm _ _ hrow
    exact .inl ⟨rfl, _, _, _, rfl, rfl⟩
  · simp at h; subst h
    cases hx with | one _ _ hx => cases hx with | d _ _ hx => cases hx; exact .inr (.inl ⟨rfl, _, rfl, rfl⟩)
  · rw [Rd.out_bind] at h
    obtain ⟨q, hq, h⟩ := h
    obtain ⟨en, hen, hv, hrow⟩ := liveRow_out hq
    simp at h; subst h
    cases hx with | one _ _ hx =>
    cases hx with | ptr _ _ _ _ en0 _ _ hh0 hvv hp =>
    rw [hen] at hh0
    obtain rfl := Option.some.inj hh0
    obtain rfl := hp hv.symm _ _ hrow
    exact .inr (.inl ⟨rfl, _, rfl, rfl⟩)
  · simp at h; subst h
    cases hx with | one _ _ hx => cases hx with | d _ _ hx => cases hx; exact .inr (.inl ⟨rfl, _, rfl, rfl⟩)
  · simp at h; subst h
    cases hx with | one _ _ hx => cases hx with | d _ _ hx => cases hx; exact .inr (.inr ⟨rfl, _, rfl, rfl⟩)
  · rw [Rd.out_bind] at h
    obtain ⟨bk, hq, h⟩ := h
    split at h
    · simp at h; subst h
      obtain ⟨en, hen, hv, hk⟩ := block_out hq
      cases hx with | one _ _ hx =>
      cases hx with | mp _ _ en0 _ _ hh0 hvv hp =>
      rw [hen] at hh0
      obtain rfl := Option.some.inj hh0
      obtain rfl := hp hv.symm (by rw [hk]; rfl)
      exact .inr (.inr ⟨rfl, _, rfl, rfl⟩)
    · simp at h
  · simp at h; subst h
    cases hx with | one _ _ hx => cases hx with | d _ _ hx =>
      cases hx with
      | rofn => exact .inl ⟨rfl, _, _, _, rfl, rfl⟩
      | rof => exact .inl ⟨rfl, _, _, _, rfl, rfl⟩
      | rofz => exact .inl ⟨rfl, _, _, _, rfl, rfl⟩
  · simp at h
end
end Go.Ex
