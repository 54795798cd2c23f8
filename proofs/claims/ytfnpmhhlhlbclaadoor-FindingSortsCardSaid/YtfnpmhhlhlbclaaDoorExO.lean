/- Exec, part O: an operation of the program's code, abstractly, is what the model does. -/
import Derived.Test.YtfnpmhhlhlbclaaDoorExN
namespace Go.Ex

section
variable {X : Ctx} {L : Nat → Prop} {w : World}

theorem field_ok {P : Program} (hX : RepH X) (hw : w.heap = X.H) {s : TypeId} {f : Nat} {fd : Field} {cs : List C} {v : Value} (hf : fieldOf? P s f = some fd) (hx : RepT X (.agg cs) v) {st : Step}
    (h : (partR P fd.type cs fd.offset).Out X.h st) : ∃ e, st = .eff e ∧ OpOK P X w (do pure (.value (← Instr.field s v f))) e := by
  cases hx with | agg _ vs hl hr =>
  obtain ⟨e, rfl, nx, v, w', X', h1, h2⟩ := partR_ok hX hw hl hr h
  refine ⟨e, rfl, nx, v, w', X', ?_, h2⟩
  unfold fieldOf? at hf
  split at hf
  · rename_i fields hu
    rw [← h1]
    simp [Instr.field, run_underlying hu, hf, asAgg]
  · simp at hf

theorem index_array_ok {P : Program} (hX : RepH X) (hw : w.heap = X.H) {t elem : TypeId} {n size : Nat} {cs : List C} {v iv : Value} {i : Int} (hu : P.underlying t = some (.array n elem)) (hs : sizeOf? P elem = some size)
    {ix : T} (hi : intOf? ix = some i) (hix : RepT X ix iv) (hx : RepT X (.agg cs) v) (h0 : 0 ≤ i) (h1 : i < (n : Int)) {st : Step}
    (h : (partR P elem cs (i.toNat * size)).Out X.h st) : ∃ e, st = .eff e ∧ OpOK P X w (do pure (.value (← Instr.index t v iv))) e := by
  obtain ⟨k, rfl⟩ := intOf_eq hi hix
  cases hx with | agg _ vs hl hr =>
  obtain ⟨e, rfl, nx, v, w', X', h3, h2⟩ := partR_ok hX hw hl hr h
  refine ⟨e, rfl, nx, v, w', X', ?_, h2⟩
  rw [← h3]
  simp [index_array_run (P := P) hu hs h0 h1 w]

theorem nilCheck_ptr {P : Program} {a : Addr} : ((match (Value.pointer (some a)) with
    | .pointer none | .nilIface | .nilFunc => runtimePanic .nilDeref
    | x => pure (.value x)) : Sem Next).run P w = .ok (.value (.pointer (some a))) w := rfl

theorem bytesD_eq : ∀ {es : List (List D)} {ns : List Int}, bytesD es = some ns → es = ns.map fun n => [.v (.int .u8 n)]
  | [], ns, h => by simp [bytesD] at h; subst h; rfl
  | e :: r, ns, h => by
    unfold bytesD at h
    split at h
    · rename_i heq; simp at heq
    · rename_i n r' heq
      simp at heq
      obtain ⟨rfl, rfl⟩ := heq
      split at h
      · rename_i l hl
        simp at h
        subst h
        rw [bytesD_eq hl]
        rfl
      · simp at h
    · simp at h

theorem bytesR_ok {P : Program} (hX : RepH X) (hw : w.heap = X.H) {x : T} {v : Value} {src dst : TypeId} (hx : RepT X x v) (hb : isBytes P src = true) (hs : isStr P dst = true) {st : Step}
    (h : (bytesR x).Out X.h st) : ∃ e, st = .eff e ∧ OpOK P X w (do pure (.value (← convert src dst v))) e := by
  unfold bytesR at h
  rw [Rd.out_bind] at h
  obtain ⟨l, hl, h⟩ := h
  cases l with
  | cs _ => simp at h
  | ds es =>
    simp only at h
    split at h
    · rename_i ns hns
      simp only [effR, Rd.out_ret] at h
      subst h
      refine ⟨_, rfl, OpOK.val hX hw (v := .string (pushAll ns)) ?_ (.one _ _ (.d _ _ (.v _ rfl)))⟩
      obtain ⟨vs, h1, h2, h3⟩ := srcOf_ok hX hw hx hl
      have hlen : es.length = ns.length := by rw [bytesD_eq hns]; simp
      simp only [Src.len, Nat.mul_one] at h1
      have hvs : vs = ns.map (Value.int .u8) := by
        refine List.ext_getElem? fun i => ?_
        by_cases hi : i < ns.length
        · have he : es[i]? = some [.v (.int .u8 ns[i])] := by rw [bytesD_eq hns]; simp [hi]
          obtain ⟨u, hu, hr⟩ := h2.2.2 i _ 0 _ he rfl
          simp only [Nat.mul_one, Nat.add_zero, List.getElem?_toArray] at hu
          rw [hu]
          cases hr
          simp [hi]
        · rw [List.getElem?_eq_none (by omega), List.getElem?_eq_none (by simp; omega)]
      have hfc := firstCells_ok (P := P) (size := 1) (n := es.length) h3 (by omega)
      obtain ⟨a, cap, rfl, h0⟩ := h3
      unfold isBytes at hb
      split at hb
      · rename_i e he
        split at hb
        · rename_i hu
          unfold isStr at hs
          split at hs
          · rename_i hd
            rw [run_convert_bytes_string w src dst e a _ cap (slElem_eq he) hu hd]
            cases a with
            | none =>
              have hz : ns = [] := by
                rcases h0 with h | ⟨_, h, _⟩
                · simp only [Src.len] at h
                  exact List.eq_nil_of_length_eq_zero (by omega)
                · simp at h
              subst hz
              simp [Conv.bytesToString, pushAll, Sem.run_pure]
            | some a =>
              refine run_bytesToString w a _ cap ns ?_
              rw [← hvs]
              simpa [Builtin.firstCells, Src.len] using hfc
          · simp at hs
        · simp at hb
      · simp at hb
    · simp at h

def constOf : Operand → Bool
  | .const _ => true
  | _ => false

theorem absOp_ok {E : Env} (hX : RepH X) (hw : w.heap = X.H) {site : Nat} {tm : Nat → T} {a : Act} (ha : ∀ x, RepT X (evO E tm x) (a.eval x)) {o : Oper} {st : Step}
    (hL : (absOp E site (evO E tm) o).OutIn X.h L st) : StepOK E.P X L w (execOp a.eval o) st := by
  have h := hL.out
  have val : ∀ {x : Operand}, OpOK E.P X w (pure (.value (a.eval x))) { val := evO E tm x, ws := [] } := fun {x} => by
    simpa using OpOK.val (P := E.P) hX hw (s := pure (a.eval x)) (v := a.eval x) rfl (ha x)
  cases hop : o.op with
  | move x =>
    simp only [absOp, hop, effR, Rd.out_ret] at h
    subst h
    simp only [execOp, hop]
    exact .eff _ val
  | assign x =>
    simp only [absOp, hop, effR, Rd.out_ret] at h
    subst h
    simp only [execOp, hop]
    exact .eff _ val
  | pick c x y =>
    simp only [absOp, hop] at h
    split at h
    · rename_i t hc
      have hcv := toValue_eq (x := .bool t) (by rw [hc]; rfl) (ha c)
      simp only [Rd.out_br, effR, Rd.out_ret] at h
      simp only [execOp, hop, hcv]
      rcases h with ⟨rfl, rfl⟩ | ⟨rfl, rfl⟩
      · exact StepOK.congr (s := pure (.value (a.eval x))) (by simp [asBool]) (.eff _ val)
      · exact StepOK.congr (s := pure (.value (a.eval y))) (by simp [asBool]) (.eff _ val)
    · simp at h
  | alloc elem =>
    simp only [absOp, hop] at h
    split at h
    · rename_i z size hz hs
      split at h
      · rename_i hl
        obtain rfl := newAt_out h
        simp only [execOp, hop]
        exact .eff _ (alloc_ok hX hw hz (Nat.eq_of_beq_eq_true hl))
      · simp at h
    · simp at h
  | box t x =>
    simp only [absOp, hop] at h
    split at h
    · rename_i cs hc
      obtain rfl := newAt_out h
      simp only [execOp, hop]
      exact .eff _ (box_ok hX hw (ha x) hc)
    · simp at h
  | build t parts =>
    simp only [absOp, hop] at h
    simp only [execOp, hop]
    split at h
    · rename_i z fields hz hu
      split at h
      · rename_i hall
        split at h
        · rename_i cs hf
          simp only [effR, Rd.out_ret] at h
          subst h
          exact .eff _ (build_struct_ok hX hw ha hz hu hall hf)
        · simp at h
      · simp at h
    · rename_i z n elem hz hu
      split at h
      · rename_i size hs
        split at h
        · rename_i cs hf
          simp only [effR, Rd.out_ret] at h
          subst h
          exact .eff _ (build_array_ok hX hw ha hz hu hs hf)
        · simp at h
      · simp at h
    · simp at h
  | buildSlice t len parts =>
    simp only [absOp, hop] at h
    simp only [execOp, hop]
    split at h
    · simp at h
    · rename_i elem ht
      split at h
      · rename_i size z hs hz
        split at h
        · rename_i h1 h2 h3
          split at h
          · rename_i cs hf
            obtain rfl := newAt_out h
            exact .eff _ (buildSlice_ok hX hw ha ht hs hz h1 h2 h3 hf)
          · simp at h
        · simp at h
      · simp at h
  | load t x =>
    simp only [absOp, hop] at h
    simp only [execOp, hop]
    split at h
    · rename_i agg size hg hs
      rw [Rd.out_bind] at h
      obtain ⟨r, h1, h⟩ := h
      simp only [effR, Rd.out_ret] at h
      subst h
      obtain ⟨v, h2, h3⟩ := loadR_sound hX hw hg hs (ha x) h1
      exact .eff _ (OpOK.val hX hw h2 h3)
    · simp at h
  | store t x y =>
    simp only [absOp, hop] at h
    simp only [execOp, hop]
    split at h
    · rename_i size ds id ver e off hs hc hp
      simp only [Rd.out_br, Rd.out_fail, and_false, or_false] at h
      obtain ⟨hl, h⟩ := h
      rw [Rd.out_bind] at h
      obtain ⟨b, h1, h⟩ := h
      rw [Rd.out_bind] at h
      obtain ⟨b', h2, h⟩ := h
      simp only [Rd.out_ret] at h
      subst h
      exact .eff _ (store_okD hX hw hs (by rw [← hc]; exact ha y) (by rw [← hp]; exact ha x) (Nat.eq_of_beq_eq_true hl) h1 h2)
    · rename_i size id ver e off hs hp _
      split at h
      · rename_i cs hc
        split at h
        · rename_i hl
          rw [Rd.out_bind] at h
          obtain ⟨b, h1, h⟩ := h
          rw [Rd.out_bind] at h
          obtain ⟨b', h2, h⟩ := h
          simp only [Rd.out_ret] at h
          subst h
          exact .eff _ (store_ok hX hw hs hc (ha y) (by rw [← hp]; exact ha x) (Nat.eq_of_beq_eq_true hl) h1 h2)
        · simp at h
      · simp at h
    · simp at h
  | nilCheck x =>
    simp only [absOp, hop] at h
    simp only [execOp, hop]
    have hx := ha x
    split at h
    · rename_i id ver e off hp
      rw [Rd.out_bind] at h
      obtain ⟨q, hq, h⟩ := h
      obtain ⟨en, hen, hv, hrow⟩ := liveRow_out hq
      simp only [effR, Rd.out_ret] at h
      subst h
      rw [hp] at hx
      have hx' := hx
      cases hx' with | one _ _ hx' =>
      cases hx' with | ptr _ _ _ _ en0 _ _ hh0 hvv hpp =>
      rw [hen] at hh0
      obtain rfl := Option.some.inj hh0
      have hval := hpp hv.symm q.1 q.2 hrow
      rw [hval] at hx ⊢
      exact .eff _ ⟨_, _, w, X, rfl, .inl rfl, ⟨hw.symm, rfl⟩, rfl, .refl X, hX, hx⟩
    · rename_i cs hp
      simp only [effR, Rd.out_ret] at h
      subst h
      rw [hp] at hx
      have hx' := hx
      cases hx' with | one _ _ hx' => cases hx' with | d _ _ hx' =>
      generalize hv : a.eval x = v at hx hx' ⊢
      cases hx' with | pro _ b off g hb hc hr =>
      exact .eff _ ⟨_, _, w, X, rfl, .inl rfl, ⟨hw.symm, rfl⟩, rfl, .refl X, hX, hx⟩
    · simp at h
  | binOp op t x y c =>
    simp only [absOp, hop] at h
    simp only [execOp, hop]
    apply StepOK.of
    split at h
    · rename_i h1
      have h1 := Nat.eq_of_beq_eq_true h1
      obtain ⟨cv, hcv, _⟩ := constKind_const h1.symm (typeKind_le t)
      obtain ⟨e, rfl, he⟩ := eqNilR_ok hX hw (ha x) h1.symm hcv h
      refine ⟨e, rfl, ?_⟩
      have := (he x y).1
      rw [hcv] at this ⊢
      exact this
    · rename_i h1
      have h1 := Nat.eq_of_beq_eq_true h1
      obtain ⟨cv, hcv, _⟩ := constKind_const h1.symm (typeKind_le t)
      obtain ⟨e, rfl, he⟩ := eqNilR_ok hX hw (ha y) h1.symm hcv h
      refine ⟨e, rfl, ?_⟩
      have := (he x y).2
      rw [hcv] at this ⊢
      exact this
    · exact binR_ok hX hw (ha x) (ha y) h
  | unOp op t x =>
    simp only [absOp, hop] at h
    simp only [execOp, hop]
    split at h
    · rename_i v hv
      obtain hv := toValue_eq hv (ha x)
      rw [hv]
      exact StepOK.of (exactR_ok hX hw h)
    · simp at h
  | convert src dst x =>
    simp only [absOp, hop] at h
    simp only [execOp, hop]
    split at h
    · rename_i hb hs
      exact StepOK.of (bytesR_ok hX hw (ha x) hb hs h)
    split at h
    · rename_i v hv
      obtain hv := toValue_eq hv (ha x)
      rw [hv]
      exact StepOK.of (exactR_ok hX hw h)
    · simp at h
  | makeFunc fn first captured =>
    simp only [absOp, hop] at h
    simp only [execOp, hop]
    cases fn with
    | func f =>
      simp only at h
      split at h
      · rename_i hf
        have hf : first = #[] := Array.toList_eq_nil_iff.1 hf
        subst hf
        split at h
        · rename_i hc
          have hc : captured = #[] := Array.toList_eq_nil_iff.1 hc
          subst hc
          simp only [effR, Rd.out_ret] at h
          subst h
          exact .eff _ (OpOK.val hX hw (v := .func (.func f) #[] #[]) (by simp [Instr.makeFunc]) (.one _ _ (.d _ _ (.v _ rfl))))
        · split at h
          · rename_i caps hcap
            obtain ⟨r1, r2⟩ := RepTs.map ha captured.toList
            obtain ⟨c1, c2⟩ := capsOf_ok hcap r1 r2
            have hrun : (Instr.makeFunc (.func f) (#[].map a.eval) (captured.map a.eval)).run E.P w = .ok (.func (.func f) #[] (captured.toList.map a.eval).toArray) w := by
              have : captured.map a.eval = (captured.toList.map a.eval).toArray := by apply Array.ext'; simp
              rw [this]
              simp [Instr.makeFunc]
            split at h
            · rename_i ds hds
              simp only [effR, Rd.out_ret] at h
              subst h
              have hds := toDs_eq hds
              refine .eff _ (OpOK.val hX hw hrun (.one _ _ (.d _ _ (.fn f ds _ (by rw [c1, hds]; simp) fun j d v a b => ?_))))
              exact RepD.of_c (c2 j (.d d) v (by rw [hds, List.getElem?_map, a]; rfl) b)
            · simp only [effR, Rd.out_ret] at h
              subst h
              exact .eff _ (OpOK.val hX hw hrun (.one _ _ (.fn f caps _ c1 c2)))
          · simp at h
      · simp at h
    | _ => simp at h
  | makeMap t r =>
    simp only [absOp, hop] at h
    simp only [execOp, hop]
    cases r with
    | none =>
      simp only at h
      obtain rfl := newAt_out h
      exact .eff _ (makeMap_ok hX hw)
    | some _ => simp at h
  | makeSlice t l c =>
    simp only [absOp, hop] at h
    simp only [execOp, hop]
    split at h
    · simp at h
    · rename_i elem ht
      split at h
      · rename_i i z l' c' hi hz hl hc
        split at h
        · rename_i h1 h2
          simp only [Rd.out_br, Rd.out_fail, and_false, or_false, decide_eq_true_eq] at h
          obtain ⟨g1, g2, g3, g4, h⟩ := h
          obtain rfl := newAt_out h
          exact .eff _ (makeSlice_ok hX hw ht hi hz hl hc (ha l) (ha c) h2 g1 g2 g3 g4)
        · simp at h
      · simp at h
  | slice t x lo hi mx =>
    simp only [absOp, hop] at h
    simp only [execOp, hop]
    split at h
    · exact StepOK.of (sliceR_ok hX hw ha (ha x) h)
    · simp at h
  | fieldAddr s x f =>
    simp only [absOp, hop] at h
    simp only [execOp, hop]
    split at h
    · rename_i fd hf
      split at h
      · rename_i n hs
        apply StepOK.of
        split at h
        · rename_i id ver e off hn hp
          refine fieldAddr_ok hX hw hf hs hn (ha x) ?_
          rw [hp]
          exact h
        · rename_i cs hn hp
          refine fieldAddr_ok hX hw hf hs hn (ha x) ?_
          rw [hp]
          exact h
        · simp at h
      · simp at h
    · simp at h
  | field s x f =>
    simp only [absOp, hop] at h
    simp only [execOp, hop]
    split at h
    · rename_i fd cs hf hp
      exact StepOK.of (field_ok hX hw hf (by rw [← hp]; exact ha x) h)
    · simp at h
  | indexAddr t x ix =>
    simp only [absOp, hop] at h
    simp only [execOp, hop]
    exact StepOK.of (indexAddrR_ok hX hw (ha x) (ha ix) h)
  | index t x ix =>
    simp only [absOp, hop] at h
    simp only [execOp, hop]
    split at h
    · rename_i s i hu hp hi
      simp only [Rd.out_br, Rd.out_fail, and_false, or_false, decide_eq_true_eq, effR, Rd.out_ret] at h
      obtain ⟨h0, h1, rfl⟩ := h
      obtain ⟨k, hk⟩ := intOf_eq hi (ha ix)
      have hxv := toValue_eq (x := .string s) (by rw [hp]; rfl) (ha x)
      rw [hk, hxv]
      exact .eff _ (index_string_ok hX hw hu h0 h1)
    · rename_i n elem cs i hu hp hi
      split at h
      · rename_i size hs
        simp only [Rd.out_br, Rd.out_fail, and_false, or_false, decide_eq_true_eq] at h
        obtain ⟨h0, h1, h⟩ := h
        exact StepOK.of (index_array_ok hX hw hu hs hi (ha ix) (by rw [← hp]; exact ha x) h0 h1 h)
      · simp at h
    · simp at h
  | lookup t m k ok =>
    simp only [absOp, hop] at h
    simp only [execOp, hop]
    exact StepOK.of (lookupR_ok hX hw (ha m) (ha k) h)
  | mapUpdate t m k x =>
    simp only [absOp, hop] at h
    simp only [execOp, hop]
    exact StepOK.of (mapUpdateR_ok hX hw (ha m) (ha k) (ha x) h)
  | insert t m k x =>
    simp only [absOp, hop] at h
    simp only [execOp, hop]
    exact StepOK.of (mapUpdateR_ok hX hw (ha m) (ha k) (ha x) h)
  | extract t ix =>
    simp only [absOp, hop] at h
    simp only [execOp, hop]
    split at h
    · rename_i ts hp
      split at h
      · rename_i x hx
        simp only [effR, Rd.out_ret] at h
        subst h
        have ht := ha t
        rw [hp] at ht
        generalize hv : a.eval t = v at ht ⊢
        cases ht with | tup _ vs hl hr =>
        have hlt : ix < vs.length := by rw [hl]; exact (List.getElem?_eq_some_iff.1 hx).1
        exact .eff _ (OpOK.val hX hw (v := vs[ix]) (by simp [Instr.extract, hlt]) (hr ix x _ hx (List.getElem?_eq_getElem hlt)))
      · simp at h
    · simp at h
  | call c =>
    simp only [absOp, hop] at h
    simp only [execOp, hop]
    have hr := RepTs.map ha c.args.toList
    have hargs : c.args.map a.eval = (c.args.toList.map a.eval).toArray := by apply Array.ext'; simp
    split at h
    · rename_i f hc
      split at h
      · rename_i g args hcal
        obtain ⟨vals, h1, h2⟩ := callee_ok hcal (ha f) hr
        simp only [absOp, hop, hc, hcal] at hL
        refine callR_ok hX ?_ h2 hL
        rw [← h1 w]
        simp only [resolve, hc, hargs]
      · simp at h
    · rename_i b hc
      have hres : resolve a.eval c o.type = pure { target := .builtin b c.argTypes o.type (c.args.map constOf), args := (c.args.toList.map a.eval).toArray } := by
        unfold resolve
        rw [hc, hargs]
        rfl
      refine StepOK.congr ?_ (builtinR_ok (consts := c.args.map constOf) hX hw hr h)
      rw [hres]
      rfl
    · simp at h
  | _ => simp [absOp, hop] at h
end
end Go.Ex
