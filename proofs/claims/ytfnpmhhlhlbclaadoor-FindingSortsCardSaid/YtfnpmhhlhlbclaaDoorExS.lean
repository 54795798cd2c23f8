/- Exec, part S: regions, in the text's order and in a drawn one. -/
import Derived.Test.YtfnpmhhlhlbclaaDoorExR
namespace Go.Ex

theorem Stp.len {E : Env} {S : Calls'} {base i : Nat} {ops : Array Oper} {o : Oper} {s s1 : St} {m : Option Mk} (h : Stp E S base ops i o s s1 m) : s1.tm.length = s.tm.length := by
  cases h <;> simp [St.put_len]

theorem Stp.frame {E : Env} {S : Calls'} {base i : Nat} {ops : Array Oper} {o : Oper} {s s1 : St} {m : Option Mk} (h : Stp E S base ops i o s s1 m) (t : Nat) (ht : o.dst ≠ some t) : s1.get t = s.get t := by
  have : ∀ v, (s.put o.dst v).get t = s.get t := fun v => by rw [St.get_put, if_neg fun e => ht e.1]
  cases h <;> exact this _

theorem Stp.heap {E : Env} {S : Calls'} (ok : SOK E S) {base i : Nat} {ops : Array Oper} {o : Oper} {s s1 : St} {m : Option Mk} (h : Stp E S base ops i o s s1 m) (id : Nat) (hid : ∀ mk, m = some mk → id ∉ mk.ws) : s1.h.get id = s.h.get id := by
  cases h with
  | skip => rw [St.put_h]
  | eff hw e l hv =>
    have := hid _ rfl
    simp only [Heap.get_setAll]
    exact updAll_none id _ _ this
  | flat => rw [St.put_h]
  | kill =>
    have := hid _ rfl
    simp only [kill_get]
    rw [if_neg this]
  | calls hw g args rt h' ws l hv hr =>
    exact (ok.heap _ _ _ _ _ _ hr).2.1 id (hid _ rfl)

theorem Stp.mark {E : Env} {S : Calls'} {base i : Nat} {ops : Array Oper} {o : Oper} {s s1 : St} {m : Option Mk} (h : Stp E S base ops i o s s1 m) : ∀ mk, m = some mk → mk.i = i := by
  intro mk hm
  cases h <;> first | (cases hm; rfl) | simp at hm

theorem Trace.mem {E : Env} {S : Calls'} {base : Nat} {ops : Array Oper} {i : Nat} {l : List Oper} {s s' : St} {ms ms' : List Mk} (h : Trace E S base ops i l s ms s' ms') : ∀ m ∈ ms, m ∈ ms' := by
  induction h with
  | nil => exact fun m hm => hm
  | cons i o rest s s1 s' m ms ms' _ _ ih => exact fun m' hm => ih m' (List.mem_append_right _ hm)

theorem Trace.by {E : Env} {S : Calls'} {base : Nat} {ops : Array Oper} {i : Nat} {l : List Oper} {s s' : St} {ms ms' : List Mk} (h : Trace E S base ops i l s ms s' ms') :
    ∃ (st : Nat → St) (mk : Nat → Option Mk), st i = s ∧ st (i + l.length) = s' ∧ ∀ j o, l[j]? = some o → Stp E S base ops (i + j) o (st (i + j)) (st (i + j + 1)) (mk (i + j)) ∧ ∀ m, mk (i + j) = some m → m ∈ ms' := by
  induction h with
  | nil i s ms => exact ⟨fun _ => s, fun _ => none, rfl, rfl, by simp⟩
  | cons i o rest s s1 s' m ms ms' hs ht ih =>
    obtain ⟨st, mk, h0, hn, hst⟩ := ih
    refine ⟨fun j => if j = i then s else st j, fun j => if j = i then m else mk j, by simp, ?_, fun j q hj => ?_⟩
    · have : ¬ (i + (o :: rest).length = i) := by simp
      dsimp only
      rw [if_neg this]
      rw [← hn]
      congr 1
      simp only [List.length_cons]
      omega
    · cases j with
      | zero =>
        simp at hj
        subst hj
        simp only [Nat.add_zero, if_true]
        rw [if_neg (by omega), h0]
        exact ⟨hs, fun m' hm' => ht.mem m' (by simp [hm'])⟩
      | succ j =>
        simp only [List.getElem?_cons_succ] at hj
        have := hst j q hj
        rw [show i + 1 + j = i + (j + 1) by omega] at this
        dsimp only
        rw [if_neg (by omega), if_neg (by omega), if_neg (by omega)]
        exact this

section
variable {E : Env} {S : Calls'} {base : Nat} {ops : Array Oper}

/-- in the text's order -/
theorem trace_seq (ok : SOK E S) {Q : Exit → Act → World → Prop} : ∀ {l : List Oper} {i : Nat} {s : St} {ms : List Mk} {s' : St} {ms' : List Mk}, Trace E S base ops i l s ms s' ms' → (∀ j o, l[j]? = some o → ops[i + j]? = some o) →
    ∀ {X : Ctx} {a : Act} {w : World}, Rel E X s.get s.tm.length a w → (∀ a' w' X', Le X X' → X'.h = s'.h.get → s'.tm.length = s.tm.length → Rel E X' s'.get s'.tm.length a' w' → Q .normal a' w') → X.h = s.h.get →
    wpOps E.P ops Q (List.range' i l.length) a w
  | [], i, s, ms, s', ms', h, _, X, a, w, r, hq, hXh => by
    cases h
    exact hq a w X (.refl X) hXh rfl r
  | o :: rest, i, s, ms, s', ms', h, hops, X, a, w, r, hq, hXh => by
    cases h with | cons _ _ _ _ s1 _ m _ _ hs ht =>
    have hi : ops[i]? = some o := by simpa using hops 0 o rfl
    rw [List.length_cons, List.range'_succ, wpOps_cons]
    refine stp_sound ok hs r hi (fun t _ => rfl) (fun mk _ => ⟨fun id _ => by rw [hXh], fun _ => hXh⟩) fun a' w' X' le r' hX' => ?_
    have hXh' : X'.h = s1.h.get := by
      funext id
      rw [hX' id]
      unfold heapAfter
      cases m with
      | none => simp only; rw [hXh]; exact (hs.heap ok id (by simp)).symm
      | some mk =>
        simp only
        by_cases hid : id ∈ mk.ws
        · rw [if_pos hid]
        · rw [if_neg hid, hXh]; exact (hs.heap ok id fun mk' e => by cases e; exact hid).symm
    have htm : (fun d => if o.dst = some d then s1.get d else s.get d) = s1.get := by
      funext d
      by_cases hd : o.dst = some d
      · rw [if_pos hd]
      · rw [if_neg hd]; exact (hs.frame d hd).symm
    rw [htm] at r'
    rw [← hs.len] at r'
    refine trace_seq ok ht (fun j q hj => ?_) r' (fun a'' w'' X'' le' h1 h2 h3 => ?_) hXh'
    · have := hops (j + 1) q (by simpa using hj)
      rw [show i + 1 + j = i + (j + 1) by omega]
      exact this
    · exact hq a'' w'' X'' (le.trans le') h1 (h2.trans hs.len) h3

theorem region_seq {α : Type} (ok : SOK E S) {id : Nat} {s : St} {κ : St → List Mk → Option α} {x : α} (h : runOps E S base ops ops.toList 0 s [] κ = some x) {Q : Exit → Act → World → Prop} {X : Ctx} {a : Act} {w : World} (r : Rel E X s.get s.tm.length a w) (hXh : X.h = s.h.get)
    (hq : ∀ s' ms' a' w' X', κ s' ms' = some x → Le X X' → X'.h = s'.h.get → s'.tm.length = s.tm.length → Rel E X' s'.get s'.tm.length a' w' → Q .normal a' w') : (Code.region id ops false).wp E.P Q a w := by
  obtain ⟨s', ms', ht, hk⟩ := runOps_trace ok h
  refine wp_region ?_
  have := trace_seq (Q := Q) ok ht (fun j o hj => by simpa using hj) r (fun a' w' X' le h1 h2 h3 => hq s' ms' a' w' X' hk le h1 h2 h3) hXh
  rw [List.range_eq_range']
  simpa using this

/-! ### a drawn order -/
/-- what is seen of a region's operations without running it: unordered ones do not write what another looks at -/
def tempsOK (ops : Array Oper) : Bool :=
  let b := (Region.before ops).toList
  (List.range ops.size).all fun j => (List.range j).all fun i =>
    (b.getD j 0).testBit i || (match ops[i]?, ops[j]? with
      | some x, some y => x.apart ops y
      | _, _ => true)

theorem tempsOK_spec (h : tempsOK ops = true) {i j : Nat} (hij : i < j) {x y : Oper} (hx : ops[i]? = some x) (hy : ops[j]? = some y) (hb : ((Region.before ops).getD j 0).testBit i = false) : x.apart ops y = true := by
  have hj : j < ops.size := (Array.getElem?_eq_some_iff.1 hy).1
  unfold tempsOK at h
  simp only [List.all_eq_true, List.mem_range] at h
  have := h j hj i hij
  rw [hx, hy] at this
  have e : (Region.before ops).toList.getD j 0 = (Region.before ops).getD j 0 := by simp [List.getD_eq_getElem?_getD]
  rw [e, hb] at this
  simpa using this

def Bf (ops : Array Oper) (i j : Nat) : Prop := i < j ∧ ((Region.before ops).getD j 0).testBit i = true

theorem disj_spec {a b : List Nat} (h : disj a b = true) {x : Nat} (ha : x ∈ a) : x ∉ b := by
  intro hb
  unfold disj at h
  rw [List.all_eq_true] at h
  have := h x ha
  rw [List.all_eq_true] at this
  have := this x hb
  simp at this

/-- what the check of the marks says of two operations in no order -/
def Apart (a b : Mk) : Prop := (∀ x, x ∈ a.rs → x ∉ b.ws) ∧ (∀ x, x ∈ a.ws → x ∉ b.rs) ∧ (∀ x, x ∈ a.ws → x ∉ b.ws) ∧ (a.call = true → b.ws = []) ∧ (b.call = true → a.ws = [])

theorem okPair_spec {a b : Mk} (h : okPair (Region.before ops).toList a b = true) (hne : a.i ≠ b.i) (h1 : ¬ Bf ops a.i b.i) (h2 : ¬ Bf ops b.i a.i) : Apart a b := by
  have e : ∀ j, (Region.before ops).toList.getD j 0 = (Region.before ops).getD j 0 := fun j => by simp [List.getD_eq_getElem?_getD]
  unfold okPair at h
  have main : (disj a.rs b.ws && disj a.ws b.rs && disj a.ws b.ws && (!a.call || b.ws.isEmpty) && (!b.call || a.ws.isEmpty)) = true := by
    by_cases hlt : a.i < b.i
    · simp only [hlt, if_true, e] at h
      cases ht : ((Region.before ops).getD b.i 0).testBit a.i with
      | true => exact absurd ⟨hlt, ht⟩ h1
      | false => rw [ht] at h; simpa using h
    · have hgt : b.i < a.i := by omega
      simp only [hlt, if_false, e] at h
      cases ht : ((Region.before ops).getD a.i 0).testBit b.i with
      | true => exact absurd ⟨hgt, ht⟩ h2
      | false => rw [ht] at h; simpa using h
  simp only [Bool.and_eq_true, Bool.or_eq_true, Bool.not_eq_true', List.isEmpty_iff] at main
  obtain ⟨⟨⟨⟨m1, m2⟩, m3⟩, m4⟩, m5⟩ := main
  refine ⟨fun x hx => disj_spec m1 hx, fun x hx => disj_spec m2 hx, fun x hx => disj_spec m3 hx, fun hc => ?_, fun hc => ?_⟩
  · rcases m4 with m4 | m4
    · rw [hc] at m4; simp at m4
    · exact m4
  · rcases m5 with m5 | m5
    · rw [hc] at m5; simp at m5
    · exact m5

theorem okPairs_spec : ∀ {ms : List Mk}, okPairs (Region.before ops).toList ms = true → ∀ {a b : Mk}, a ∈ ms → b ∈ ms → a.i ≠ b.i → ¬ Bf ops a.i b.i → ¬ Bf ops b.i a.i → Apart a b
  | [], _, a, b, ha, _, _, _, _ => by simp at ha
  | m :: ms, h, a, b, ha, hb, hne, h1, h2 => by
    simp only [okPairs, Bool.and_eq_true, List.all_eq_true] at h
    rcases List.mem_cons.1 ha with rfl | ha' <;> rcases List.mem_cons.1 hb with rfl | hb'
    · exact absurd rfl hne
    · exact okPair_spec (h.1 b hb') hne h1 h2
    · obtain ⟨a1, a2, a3, a4, a5⟩ := okPair_spec (h.1 a ha') (Ne.symm hne) h2 h1
      exact ⟨fun x hx hy => a2 x hy hx, fun x hx hy => a1 x hy hx, fun x hx hy => a3 x hy hx, a5, a4⟩
    · exact okPairs_spec h.2 ha' hb' hne h1 h2
end
end Go.Ex
