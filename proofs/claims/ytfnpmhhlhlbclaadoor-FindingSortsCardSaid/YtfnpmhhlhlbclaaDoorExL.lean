/- Exec, part L: comparisons, maps, indices of strings and arrays. -/
import Derived.Test.YtfnpmhhlhlbclaaDoorExK
namespace Go.Ex

theorem pureRun_bind {α β : Type} {P : Program} (s : Sem α) (f : α → Sem β) : pureRun P (s >>= f) = (pureRun P s).bind fun a => pureRun P (f a) := by
  show pureRun P (s.bind f) = _
  induction s with
  | pure a => rfl
  | program k ih => simp only [Sem.bind, pureRun]; exact ih P
  | mark m k ih => simp only [Sem.bind, pureRun]; exact ih
  | _ => rfl

theorem pureRun_pure {α : Type} {P : Program} (a : α) : pureRun P (pure a) = some a := rfl

section
variable {P : Program} {X : Ctx} {w : World}

theorem exactR_ok (hX : RepH X) (hw : w.heap = X.H) {s : Sem Value} {st : Step} (h : (exactR P s).Out X.h st) : ∃ e, st = .eff e ∧ OpOK P X w (do pure (.value (← s))) e := by
  unfold exactR at h
  split at h
  · rename_i v hv
    simp only [effR, Rd.out_ret] at h
    subst h
    exact ⟨_, rfl, OpOK.val hX hw (pureRun_ok s hv w) (RepT.ofValue v)⟩
  · simp at h

theorem boolT_ok (b : Bool) : RepT X (boolT b) (.bool b) := .one _ _ (.d _ _ (.v _ rfl))

/-! ### comparisons with nil -/
theorem run_equalIn_nil {t : TypeId} {v c : Value} {k : Nat} {b : Bool} {y : Operand} (d : Nat) (hk : typeKind P t = k) (hy : constKind y = k) (hc : y = .const c)
    (h : (k = 0 ∧ ∃ a n c, v = .slice a n c ∧ b = a.isNone) ∨ (k = 1 ∧ ∃ a, v = .pointer a ∧ b = a.isNone) ∨ (k = 2 ∧ ∃ r, v = .map r ∧ b = r.isNone)) :
    (Op.equalIn (d + 1) t v c).run P w = .ok b w ∧ (Op.equalIn (d + 1) t c v).run P w = .ok b w := by
  subst hc
  unfold typeKind at hk
  unfold constKind at hy
  rcases h with ⟨rfl, a, n, c', rfl, rfl⟩ | ⟨rfl, a, rfl, rfl⟩ | ⟨rfl, r, rfl, rfl⟩
  · split at hk <;> simp at hk
    rename_i e hu
    split at hy <;> simp at hy
    rename_i heq
    cases heq
    cases a <;> simp [Op.equalIn, run_underlying hu]
  · split at hk <;> simp at hk
    rename_i e hu
    split at hy <;> simp at hy
    rename_i heq
    cases heq
    cases a <;> simp [Op.equalIn, run_underlying hu]
  · split at hk <;> simp at hk
    rename_i e hu
    split at hy <;> simp at hy
    rename_i heq
    cases heq
    cases r <;> simp [Op.equalIn, run_underlying hu]

theorem run_equal_nil {t : TypeId} {v c : Value} {k : Nat} {b : Bool} {y : Operand} (hk : typeKind P t = k) (hy : constKind y = k) (hc : y = .const c)
    (h : (k = 0 ∧ ∃ a n c, v = .slice a n c ∧ b = a.isNone) ∨ (k = 1 ∧ ∃ a, v = .pointer a ∧ b = a.isNone) ∨ (k = 2 ∧ ∃ r, v = .map r ∧ b = r.isNone)) :
    (Op.equal t v c).run P w = .ok b w ∧ (Op.equal t c v).run P w = .ok b w := run_equalIn_nil 9999 hk hy hc h

theorem constKind_const {y : Operand} {k : Nat} (hy : constKind y = k) (hk : k ≤ 3) : ∃ c, y = .const c ∧ ((∃ a, c = .slice a 0 0) ∨ (∃ a, c = .pointer a) ∨ ∃ a, c = .map a) := by
  unfold constKind at hy
  split at hy
  · exact ⟨_, rfl, .inl ⟨_, rfl⟩⟩
  · exact ⟨_, rfl, .inr (.inl ⟨_, rfl⟩)⟩
  · exact ⟨_, rfl, .inr (.inr ⟨_, rfl⟩)⟩
  · omega

theorem typeKind_le (t : TypeId) : typeKind P t ≤ 3 := by unfold typeKind; split <;> omega

theorem eqNilR_ok (hX : RepH X) (hw : w.heap = X.H) {op : BinOp} {t : TypeId} {x : T} {v : Value} {c : Operand} {cv : Value} (hx : RepT X x v) (hc : constKind c = typeKind P t) (hcv : c = .const cv) {st : Step}
    (h : (eqNilR (typeKind P t) op x).Out X.h st) : ∃ e, st = .eff e ∧ ∀ p q, OpOK P X w (do pure (.value (← (do eqGuard op t p q v cv; binOp op t v cv)))) e ∧ OpOK P X w (do pure (.value (← (do eqGuard op t p q cv v; binOp op t cv v)))) e := by
  unfold eqNilR at h
  split at h
  · rename_i hk
    have hk := Nat.eq_of_beq_eq_true hk
    obtain ⟨_, hcv2, hshape⟩ := constKind_const hc (typeKind_le t)
    rw [hcv] at hcv2
    cases hcv2
    have main : ∀ b, (isNilR x).Out X.h b → (Op.equal t v cv).run P w = .ok b w ∧ (Op.equal t cv v).run P w = .ok b w ∧ ((∃ a n c, v = .slice a n c) ∨ (∃ a, v = .pointer a) ∨ ∃ r, v = .map r) := by
      intro b hb
      have := isNilR_ok hx hb
      rw [hk] at this
      have h2 := run_equal_nil (w := w) rfl hc hcv this
      refine ⟨h2.1, h2.2, ?_⟩
      rcases this with ⟨_, a, n, c, h, _⟩ | ⟨_, a, h, _⟩ | ⟨_, a, h, _⟩
      · exact .inl ⟨a, n, c, h⟩
      · exact .inr (.inl ⟨a, h⟩)
      · exact .inr (.inr ⟨a, h⟩)
    split at h
    · rw [Rd.out_bind] at h
      obtain ⟨b, hb, h⟩ := h
      simp only [effR, Rd.out_ret] at h
      subst h
      obtain ⟨m1, m2, m3⟩ := main b hb
      refine ⟨_, rfl, fun p q => ⟨OpOK.val hX hw (v := .bool b) ?_ (boolT_ok b), OpOK.val hX hw (v := .bool b) ?_ (boolT_ok b)⟩⟩
      · rcases hshape with ⟨a, rfl⟩ | ⟨a, rfl⟩ | ⟨a, rfl⟩ <;> rcases m3 with ⟨a', n, c', rfl⟩ | ⟨a', rfl⟩ | ⟨a', rfl⟩ <;> simp [eqGuard, binOp, m1]
      · rcases hshape with ⟨a, rfl⟩ | ⟨a, rfl⟩ | ⟨a, rfl⟩ <;> rcases m3 with ⟨a', n, c', rfl⟩ | ⟨a', rfl⟩ | ⟨a', rfl⟩ <;> simp [eqGuard, binOp, m2]
    · rw [Rd.out_bind] at h
      obtain ⟨b, hb, h⟩ := h
      simp only [effR, Rd.out_ret] at h
      subst h
      obtain ⟨m1, m2, m3⟩ := main b hb
      refine ⟨_, rfl, fun p q => ⟨OpOK.val hX hw (v := .bool (!b)) ?_ (boolT_ok _), OpOK.val hX hw (v := .bool (!b)) ?_ (boolT_ok _)⟩⟩
      · rcases hshape with ⟨a, rfl⟩ | ⟨a, rfl⟩ | ⟨a, rfl⟩ <;> rcases m3 with ⟨a', n, c', rfl⟩ | ⟨a', rfl⟩ | ⟨a', rfl⟩ <;> simp [eqGuard, binOp, m1]
      · rcases hshape with ⟨a, rfl⟩ | ⟨a, rfl⟩ | ⟨a, rfl⟩ <;> rcases m3 with ⟨a', n, c', rfl⟩ | ⟨a', rfl⟩ | ⟨a', rfl⟩ <;> simp [eqGuard, binOp, m2]
    · simp at h
  · simp at h

theorem eqLeaf_ok {d : Nat} {t : TypeId} {x y : Value} {c : Bool} (h : eqLeaf P t x y = some c) : (Op.equalIn (d + 1) t x y).run P w = .ok c w := by
  unfold eqLeaf at h
  split at h
  · rename_i hu
    cases h
    simp [Op.equalIn, run_underlying hu]
  · rename_i hu
    split at h
    · rename_i hk
      cases h
      simp only [decide_eq_true_eq] at hk
      subst hk
      simp [Op.equalIn, run_underlying hu]
    · simp at h
  · rename_i hu
    cases h
    simp [Op.equalIn, run_underlying hu]
  · simp at h
theorem part_ok {t : TypeId} {xs : Array Value} {off : Nat} {a : Value} (ha : isAgg? P t = some false) (hx : xs[off]? = some a) : (part t xs off).run P w = .ok a w := by
  simp [part, run_isAgg ha, hx]
theorem eqFields_loop {d : Nat} {xs ys : Array Value} : ∀ {fs : List Field} {c : Bool}, eqFields P xs.toList ys.toList fs = some c →
    Sem.run P (forIn fs ((none, ()) : Option Bool × Unit) fun f __s =>
            if f.name = "_" then (pure (ForInStep.yield (none, ())) : Sem _)
            else do
              let __do_lift ← part f.type xs f.offset
              let __do_lift_1 ← part f.type ys f.offset
              let __do_lift ← Op.equalIn (d + 1) f.type __do_lift __do_lift_1
              if __do_lift = false then pure (ForInStep.done (some false, ())) else pure (ForInStep.yield (none, ())))
          w = .ok (match c with | true => (none, ()) | false => (some false, ())) w
  | [], c, h => by simp [eqFields] at h; subst h; simp
  | f :: r, c, h => by
    unfold eqFields at h
    split at h
    · rename_i a b hn ha hx hy
      split at h
      · rename_i c1 c2 h1 h2
        cases h
        have ih := eqFields_loop (d := d) h2
        have hn : ¬ f.name = "_" := by simpa using hn
        have hx : xs[f.offset]? = some a := by simpa using hx
        have hy : ys[f.offset]? = some b := by simpa using hy
        simp only [List.forIn_cons, hn, if_false, Sem.run_bind, part_ok ha hx, part_ok ha hy, eqLeaf_ok h1, Result.andThen]
        cases c1 with
        | true => simpa using ih
        | false => simp
      · simp at h
    · simp at h
theorem equal_struct {d : Nat} {t : TypeId} {fs : List Field} {xs ys : Array Value} {c : Bool} (hu : P.underlying t = some (.struct fs.toArray)) (hs : P.stoodInHeld t = false) (h : eqFields P xs.toList ys.toList fs = some c) :
    (Op.equalIn (d + 2) t (.agg xs) (.agg ys)).run P w = .ok c w := by
  unfold Op.equalIn
  simp [run_underlying hu, hs]
  rw [eqFields_loop h]
  cases c <;> simp
theorem structEq_ok {op : BinOp} {t : TypeId} {x y : Operand} {a b : Value} {c : Bool} (h : structEq P op t a b = some c) : (do eqGuard op t x y a b; binOp op t a b : Sem Value).run P w = .ok (.bool c) w := by
  unfold structEq at h
  split at h
  · rename_i xs ys
    split at h
    · rename_i fields hu hg hs
      obtain ⟨fs⟩ := fields
      split at h
      · have he := equal_struct (P := P) (w := w) (d := 9998) hu hs h
        simp [eqGuard, binOp, Op.equal, Op.maxDepth, he, hg]
      · split at h
        · rename_i b hb
          cases h
          have he := equal_struct (P := P) (w := w) (d := 9998) hu hs hb
          simp [eqGuard, binOp, Op.equal, Op.maxDepth, he, hg]
        · simp at h
      · simp at h
    · simp at h
  · simp at h

theorem binR_ok (hX : RepH X) (hw : w.heap = X.H) {op : BinOp} {t : TypeId} {x y : Operand} {a b : T} {va vb : Value} (ha : RepT X a va) (hb : RepT X b vb) {st : Step}
    (h : (binR P op t x y a b).Out X.h st) : ∃ e, st = .eff e ∧ OpOK P X w (do pure (.value (← (do eqGuard op t x y va vb; binOp op t va vb)))) e := by
  unfold binR at h
  split at h
  · rename_i p q
    simp only [Rd.out_br, Rd.out_fail, and_false, or_false, effR, Rd.out_ret, decide_eq_true_eq] at h
    obtain ⟨hle, rfl⟩ := h
    obtain rfl := toValue_eq (x := .string p) rfl ha
    obtain rfl := toValue_eq (x := .string q) rfl hb
    refine ⟨_, rfl, OpOK.val hX hw (v := .string (p ++ q)) ?_ (.one _ _ (.d _ _ (.v _ rfl)))⟩
    have : IntKind.i64.max = 9223372036854775807 := by decide
    simp [eqGuard, binOp, Op.stringOp]
    omega
  · split at h
    · rename_i va' vb' h1 h2
      obtain rfl := toValue_eq h1 ha
      obtain rfl := toValue_eq h2 hb
      split at h
      · rename_i c hc
        simp only [effR, Rd.out_ret] at h
        subst h
        exact ⟨_, rfl, OpOK.val hX hw (structEq_ok hc) (.one _ _ (.d _ _ (.v _ rfl)))⟩
      · exact exactR_ok hX hw h
    · simp at h

/-! ### maps -/
theorem findNow_keys {kind : TypeDesc} {k : Value} : ∀ {l l' : List MapEntry} {i : Nat} {r : Option (Nat × Value)}, l.map (·.key) = l'.map (·.key) → Instr.findNow kind k l i = some r →
    ∃ r', Instr.findNow kind k l' i = some r' ∧ r'.map (·.1) = r.map (·.1) ∧ ∀ j v, r' = some (j, v) → i ≤ j ∧ ∃ e, l'[j - i]? = some e ∧ e.val = v
  | [], [], i, r, _, h => by simp [Instr.findNow] at h ⊢; subst h; simp
  | [], _ :: _, _, _, hk, _ => by simp at hk
  | _ :: _, [], _, _, hk, _ => by simp at hk
  | e :: l, e' :: l', i, r, hk, h => by
    simp only [List.map_cons, List.cons.injEq] at hk
    simp only [Instr.findNow, ← hk.1] at h ⊢
    split at h
    · rename_i hs
      cases h
      refine ⟨_, rfl, rfl, fun j v hj => ?_⟩
      cases hj
      exact ⟨Nat.le_refl _, e', by simp, rfl⟩
    · obtain ⟨r', h1, h2, h3⟩ := findNow_keys hk.2 h
      refine ⟨r', h1, h2, fun j v hj => ?_⟩
      obtain ⟨a1, e2, a2, a3⟩ := h3 j v hj
      refine ⟨by omega, e2, ?_, a3⟩
      rw [show j - i = (j - (i + 1)) + 1 by omega]
      simpa using a2
    · simp at h

theorem findAsking_keys {kt : TypeId} {k : Value} : ∀ {l l' : List MapEntry} {i : Nat} {r : Option (Nat × Value)}, l.map (·.key) = l'.map (·.key) → pureRun P (Instr.findAsking kt k l i) = some r →
    ∃ r', pureRun P (Instr.findAsking kt k l' i) = some r' ∧ r'.map (·.1) = r.map (·.1) ∧ ∀ j v, r' = some (j, v) → i ≤ j ∧ ∃ e, l'[j - i]? = some e ∧ e.val = v
  | [], [], i, r, _, h => by
    simp only [Instr.findAsking, pureRun_pure, Option.some.injEq] at h ⊢
    subst h; exact ⟨none, rfl, rfl, by simp⟩
  | [], _ :: _, _, _, hk, _ => by simp at hk
  | _ :: _, [], _, _, hk, _ => by simp at hk
  | e :: l, e' :: l', i, r, hk, h => by
    simp only [List.map_cons, List.cons.injEq] at hk
    simp only [Instr.findAsking, ← hk.1, pureRun_bind] at h ⊢
    cases hb : pureRun P (Op.equal kt k e.key) with
    | none => rw [hb] at h; simp at h
    | some b =>
      rw [hb] at h
      simp only [Option.bind_some] at h ⊢
      cases b with
      | true =>
        simp only [if_true, pureRun_pure, Option.some.injEq] at h ⊢
        subst h
        refine ⟨_, rfl, rfl, fun j v hj => ?_⟩
        cases hj
        exact ⟨Nat.le_refl _, e', by simp, rfl⟩
      | false =>
        simp only [Bool.false_eq_true, if_false] at h ⊢
        obtain ⟨r', h1, h2, h3⟩ := findAsking_keys hk.2 h
        refine ⟨r', h1, h2, fun j v hj => ?_⟩
        obtain ⟨a1, e2, a2, a3⟩ := h3 j v hj
        refine ⟨by omega, e2, ?_, a3⟩
        rw [show j - i = (j - (i + 1)) + 1 by omega]
        simpa using a2

theorem findKey_keys {kt : TypeId} {k : Value} {l l' : List MapEntry} {r : Option (Nat × Value)} (hk : l.map (·.key) = l'.map (·.key)) (h : pureRun P (Instr.findKey kt k l) = some r) :
    ∃ r', pureRun P (Instr.findKey kt k l') = some r' ∧ r'.map (·.1) = r.map (·.1) ∧ ∀ j v, r' = some (j, v) → ∃ e, l'[j]? = some e ∧ e.val = v := by
  unfold Instr.findKey at h ⊢
  rw [pureRun_bind] at h ⊢
  cases hu : pureRun P (underlying kt) with
  | none => rw [hu] at h; simp at h
  | some d =>
    rw [hu] at h
    simp only [Option.bind_some] at h ⊢
    cases hn : Instr.findNow d k l 0 with
    | some r1 =>
      rw [hn] at h
      simp only [pureRun_pure, Option.some.injEq] at h
      subst h
      obtain ⟨r', h1, h2, h3⟩ := findNow_keys hk hn
      refine ⟨r', by rw [h1]; rfl, h2, fun j v hj => ?_⟩
      obtain ⟨_, e, a2, a3⟩ := h3 j v hj
      exact ⟨e, by simpa using a2, a3⟩
    | none =>
      rw [hn] at h
      have hn' : Instr.findNow d k l' 0 = none := by
        cases hq : Instr.findNow d k l' 0 with
        | none => rfl
        | some r1 =>
          obtain ⟨r', h1, _⟩ := findNow_keys hk.symm hq
          rw [hn] at h1; simp at h1
      rw [hn']
      obtain ⟨r', h1, h2, h3⟩ := findAsking_keys hk h
      refine ⟨r', h1, h2, fun j v hj => ?_⟩
      obtain ⟨_, e, a2, a3⟩ := h3 j v hj
      exact ⟨e, by simpa using a2, a3⟩

/-- the entries of a map and what is known of them -/
theorem ents_keys {ents : List (Value × T)} {es : Array MapEntry} (hl : es.size = ents.length) (hr : ∀ (i : Nat) (k : Value) (t : T), ents[i]? = some (k, t) → ∃ e, es[i]? = some e ∧ e.key = k ∧ RepT X t e.val) :
    (ents.map fun e => ({ key := e.1, val := e.1, born := 0 } : MapEntry)).map (·.key) = es.toList.map (·.key) := by
  apply List.ext_getElem?
  intro i
  simp only [List.getElem?_map, Array.getElem?_toList]
  cases he : ents[i]? with
  | none =>
    have : es[i]? = none := by
      rw [List.getElem?_eq_none_iff] at he
      rw [Array.getElem?_eq_none_iff]
      omega
    simp [this]
  | some p =>
    obtain ⟨k, t⟩ := p
    obtain ⟨e, h1, h2, _⟩ := hr i k t he
    simp [h1, h2]

theorem mapFind_ok {kt : TypeId} {k : Value} {ents : List (Value × T)} {es : Array MapEntry} {r : Option Nat} (hl : es.size = ents.length) (hr : ∀ (i : Nat) (k : Value) (t : T), ents[i]? = some (k, t) → ∃ e, es[i]? = some e ∧ e.key = k ∧ RepT X t e.val)
    (h : mapFind P kt k ents = some r) : ∃ r', (∀ w, (Instr.findKey kt k es.toList).run P w = .ok r' w) ∧ r'.map (·.1) = r ∧ ∀ j v, r' = some (j, v) → ∃ e, es[j]? = some e ∧ e.val = v := by
  unfold mapFind at h
  cases hp : pureRun P (Instr.findKey kt k (ents.map fun e => { key := e.1, val := e.1, born := 0 })) with
  | none => rw [hp] at h; simp at h
  | some r1 =>
    rw [hp] at h
    simp only [Option.map_some, Option.some.injEq] at h
    subst h
    obtain ⟨r', h1, h2, h3⟩ := findKey_keys (ents_keys hl hr) hp
    exact ⟨r', fun w => pureRun_ok _ h1 w, h2, fun j v hj => by simpa using h3 j v hj⟩

theorem mp_at (hX : RepH X) (hw : w.heap = X.H) {id ver : Nat} {ents : List (Value × T)} {v : Value} (hx : RepT X (.one (.mp id ver)) v) {en : Ent} (hen : X.h id = some en) (hv : en.ver = ver) (hb : en.blk = .mp ents) :
    v = .map (some (X.ρ id)) ∧ ∃ es clock, w.heap[X.ρ id]? = some (.map es clock) ∧ es.size = ents.length ∧ ∀ (i : Nat) (k : Value) (t : T), ents[i]? = some (k, t) → ∃ e, es[i]? = some e ∧ e.key = k ∧ RepT X t e.val := by
  cases hx with | one _ _ hx =>
  cases hx with | mp _ _ en0 _ _ hh0 hvv hp =>
  rw [hen] at hh0
  obtain rfl := Option.some.inj hh0
  refine ⟨hp hv.symm (by rw [hb]; rfl), ?_⟩
  have := hX.blk id en hen
  rw [hb] at this
  rw [hw]
  exact this

theorem lookupR_ok (hX : RepH X) (hw : w.heap = X.H) {t : TypeId} {m k : T} {mv kv : Value} {commaOk : Bool} (hm : RepT X m mv) (hk : RepT X k kv) {st : Step}
    (h : (lookupR P t m k commaOk).Out X.h st) : ∃ e, st = .eff e ∧ OpOK P X w (do pure (.value (← Instr.lookup t mv kv commaOk))) e := by
  unfold lookupR at h
  split at h
  · rename_i kt et kv' hu hkv
    obtain rfl := toValue_eq hkv hk
    split at h
    · rename_i z hc1 hc2 hz
      have hck : ∀ b, (Instr.checkKey b 10000 kt kv).run P w = .ok () w := by
        intro b
        cases b
        · exact pureRun_ok _ hc1 w
        · exact pureRun_ok _ hc2 w
      have done : ∀ {x : T} {xv : Value} {ok : Bool}, RepT X x xv → (Instr.lookup t mv kv commaOk).run P w = .ok (if commaOk then .tuple #[xv, .bool ok] else xv) w →
          (effR (okT commaOk x ok)).Out X.h st → ∃ e, st = .eff e ∧ OpOK P X w (do pure (.value (← Instr.lookup t mv kv commaOk))) e := by
        intro x xv ok hx hrun ho
        simp only [effR, Rd.out_ret] at ho
        subst ho
        refine ⟨_, rfl, OpOK.val hX hw hrun ?_⟩
        cases commaOk with
        | false => exact hx
        | true =>
          refine .tup [x, boolT ok] [xv, .bool ok] rfl fun j t v h1 h2 => ?_
          rcases j with _ | _ | j
          · simp at h1 h2; subst h1; subst h2; exact hx
          · simp at h1 h2; subst h1; subst h2; exact boolT_ok ok
          · simp at h1
      split at h
      · obtain rfl := toValue_eq (x := .map none) rfl hm
        split at h
        · rename_i hf
          obtain ⟨r', h1, h2, _⟩ := mapFind_ok (X := X) (es := #[]) rfl (by simp) hf
          cases r' with
          | some p => simp at h2
          | none =>
            refine done (RepT.ofValue z) ?_ h
            simp [Instr.lookup, run_underlying hu, hck, h1, run_zeroValue hz]
        · simp at h
      · rename_i id ver
        rw [Rd.out_bind] at h
        obtain ⟨bk, hbk, h⟩ := h
        obtain ⟨en, hen, hv, rfl⟩ := block_out hbk
        split at h
        · rename_i ents hents
          obtain ⟨rfl, es, clock, ho, hsz, hr⟩ := mp_at hX hw hm hen hv hents
          split at h
          · rename_i i hf
            obtain ⟨r', h1, h2, h3⟩ := mapFind_ok hsz hr hf
            cases r' with
            | none => simp at h2
            | some p =>
              obtain ⟨j, v⟩ := p
              simp only [Option.map_some, Option.some.injEq] at h2
              subst h2
              obtain ⟨e, h4, rfl⟩ := h3 j v rfl
              have hlt : j < ents.length := by rw [← hsz]; exact (Array.getElem?_eq_some_iff.1 h4).1
              obtain ⟨e', h5, _, h7⟩ := hr j _ _ (List.getElem?_eq_getElem hlt)
              rw [h4] at h5
              cases h5
              refine done (x := (ents.getD j (kv, .any)).2) (xv := e.val) (ok := true) ?_ ?_ h
              · simpa [List.getD, List.getElem?_eq_getElem hlt] using h7
              · simp [Instr.lookup, run_underlying hu, getObj_ok ho, hck, h1]
          · rename_i hf
            obtain ⟨r', h1, h2, _⟩ := mapFind_ok hsz hr hf
            cases r' with
            | some p => simp at h2
            | none =>
              refine done (RepT.ofValue z) ?_ h
              simp [Instr.lookup, run_underlying hu, getObj_ok ho, hck, h1, run_zeroValue hz]
          · simp at h
        · simp at h
      · simp at h
    · simp at h
  · simp at h
end
end Go.Ex
