/- Exec, part T: a region in whatever order. -/
import Derived.Test.YtfnpmhhlhlbclaaDoorExS
namespace Go.Ex

/-- edges lead back -/
def edgesOK (ops : Array Oper) : Bool := ops.toList.zipIdx.all fun (o, i) => o.after.toList.all fun e => !Region.binds .any e || Nat.blt e.on i

theorem edgesOK_spec {ops : Array Oper} (h : edgesOK ops = true) {i : Nat} {o : Oper} (ho : ops[i]? = some o) {e : Edge} (he : e ∈ o.after) (hb : Region.binds .any e = true) : e.on < i := by
  unfold edgesOK at h
  rw [List.all_eq_true] at h
  have hm : (o, i) ∈ ops.toList.zipIdx := by
    rw [List.mem_zipIdx_iff_getElem?]
    simpa using ho
  have := h (o, i) hm
  simp only [List.all_eq_true] at this
  have := this e (Array.mem_toList_iff.2 he)
  rw [hb] at this
  simp at this
  exact this

def cnt (listed : Array Bool) : Nat → Nat
  | 0 => 0
  | m + 1 => cnt listed m + (if listed.getD m false then 0 else 1)

theorem cnt_le (listed : Array Bool) : ∀ m, cnt listed m ≤ m
  | 0 => Nat.le_refl _
  | m + 1 => by
    have := cnt_le listed m
    unfold cnt
    split <;> omega

theorem cnt_zero {listed : Array Bool} : ∀ {m : Nat}, cnt listed m = 0 → ∀ j, j < m → listed.getD j false = true
  | 0, _, j, hj => by omega
  | m + 1, h, j, hj => by
    unfold cnt at h
    split at h
    · rename_i hm
      by_cases e : j = m
      · subst e; exact hm
      · exact cnt_zero (by omega) j (by omega)
    · omega

theorem getD_set {listed : Array Bool} {i : Nat} (hi : i < listed.size) (j : Nat) : (listed.setIfInBounds i true).getD j false = if i = j then true else listed.getD j false := by
  simp only [Array.getD_eq_getD_getElem?, Array.getElem?_setIfInBounds]
  by_cases e : i = j
  · subst e; simp [hi]
  · simp [e]

theorem cnt_set {listed : Array Bool} {i : Nat} (hi : i < listed.size) (hn : listed.getD i false = false) : ∀ m, cnt (listed.setIfInBounds i true) m + (if i < m then 1 else 0) = cnt listed m
  | 0 => rfl
  | m + 1 => by
    have ih := cnt_set hi hn m
    unfold cnt
    rw [getD_set hi]
    by_cases e : i = m
    · subst e
      rw [if_pos rfl, hn]
      rw [if_neg (by omega)] at ih
      simp
      omega
    · have e1 : (i < m + 1) = (i < m) := propext (by omega)
      simp only [if_neg e, e1]
      rw [← ih, Nat.add_right_comm]

section
variable {E : Env} {S : Calls'} {base : Nat} {ops : Array Oper} {s : St}

/-- the trace by numbers -/
structure Run (E : Env) (S : Calls') (base : Nat) (ops : Array Oper) (s s' : St) (ms' : List Mk) (st : Nat → St) (mk : Nat → Option Mk) : Prop where
  h0 : st 0 = s
  hn : st ops.size = s'
  step : ∀ i o, ops[i]? = some o → Stp E S base ops i o (st i) (st (i + 1)) (mk i)
  mem : ∀ i o m, ops[i]? = some o → mk i = some m → m ∈ ms'

theorem Run.of {s' : St} {ms' : List Mk} (h : Trace E S base ops 0 ops.toList s [] s' ms') : ∃ st mk, Run E S base ops s s' ms' st mk := by
  obtain ⟨st, mk, h0, hn, hst⟩ := h.by
  refine ⟨st, mk, h0, by simpa using hn, fun i o ho => ?_, fun i o m ho hm => ?_⟩
  · have := (hst i o (by simpa using ho)).1
    simpa using this
  · have := (hst i o (by simpa using ho)).2 m
    exact this (by simpa using hm)

theorem Run.len {s' : St} {ms' : List Mk} {st : Nat → St} {mk : Nat → Option Mk} (h : Run E S base ops s s' ms' st mk) : ∀ i, i ≤ ops.size → (st i).tm.length = s.tm.length
  | 0, _ => by rw [h.h0]
  | i + 1, hi => by rw [(h.step i _ (Array.getElem?_eq_getElem (by omega))).len]; exact h.len i (by omega)

def schedT (ops : Array Oper) (st : Nat → St) : Sched Nat T where
  n := ops.size
  rd i t := ∃ o, ops[i]? = some o ∧ t ∈ o.looksAt ops
  wr i t := ∃ o, ops[i]? = some o ∧ o.dst = some t
  st i t := (st i).get t
  bf := Bf ops

def schedH (ops : Array Oper) (st : Nat → St) (mk : Nat → Option Mk) : Sched Nat (Option Ent) where
  n := ops.size
  rd i id := ∃ m, mk i = some m ∧ (id ∈ m.rs ∨ m.call = true)
  wr i id := ∃ m, mk i = some m ∧ id ∈ m.ws
  st i id := (st i).h.get id
  bf := Bf ops

theorem schedT_ok {s' : St} {ms' : List Mk} {st : Nat → St} {mk : Nat → Option Mk} (h : Run E S base ops s s' ms' st mk) (ht : tempsOK ops = true) : (schedT ops st).OK := by
  have look : ∀ i j, i ≠ j → ¬ Bf ops i j → ¬ Bf ops j i → ∀ x y, ops[i]? = some x → ops[j]? = some y → (∀ d, y.dst = some d → d ∉ x.looksAt ops) ∧ (∀ d, x.dst = some d → y.dst ≠ some d) := by
    intro i j hne h1 h2 x y hx hy
    rcases Nat.lt_or_gt_of_ne hne with hlt | hgt
    · have hb : ((Region.before ops).getD j 0).testBit i = false := by
        cases hb : ((Region.before ops).getD j 0).testBit i with
        | true => exact absurd ⟨hlt, hb⟩ h1
        | false => rfl
      obtain ⟨a1, a2, a3⟩ := Oper.apart_spec (tempsOK_spec ht hlt hx hy hb)
      exact ⟨a3, a2⟩
    · have hb : ((Region.before ops).getD i 0).testBit j = false := by
        cases hb : ((Region.before ops).getD i 0).testBit j with
        | true => exact absurd ⟨hgt, hb⟩ h2
        | false => rfl
      obtain ⟨a1, a2, a3⟩ := Oper.apart_spec (tempsOK_spec ht hgt hy hx hb)
      exact ⟨a1, fun d hd hd' => a2 d hd' hd⟩
  refine ⟨fun i hi k hk => ?_, fun i j hi hj hne h1 h2 k hk hw => ?_, fun i j hi hj hne h1 h2 k hk hw => ?_, fun i j h => h.1⟩
  · have ho := Array.getElem?_eq_getElem (xs := ops) (i := i) hi
    exact (h.step i _ ho).frame k fun hd => hk ⟨_, ho, hd⟩
  · obtain ⟨x, hx, hk⟩ := hk
    obtain ⟨y, hy, hw⟩ := hw
    exact (look i j hne h1 h2 x y hx hy).1 k hw hk
  · obtain ⟨x, hx, hk⟩ := hk
    obtain ⟨y, hy, hw⟩ := hw
    exact (look i j hne h1 h2 x y hx hy).2 k hk hw

theorem schedH_ok {s' : St} {ms' : List Mk} {st : Nat → St} {mk : Nat → Option Mk} (ok : SOK E S) (h : Run E S base ops s s' ms' st mk) (hp : okPairs (Region.before ops).toList ms' = true) : (schedH ops st mk).OK := by
  have pair : ∀ i j, i < ops.size → j < ops.size → i ≠ j → ¬ Bf ops i j → ¬ Bf ops j i → ∀ a b, mk i = some a → mk j = some b → Apart a b := by
    intro i j hi hj hne h1 h2 a b ha hb
    have hoi := Array.getElem?_eq_getElem (xs := ops) (i := i) hi
    have hoj := Array.getElem?_eq_getElem (xs := ops) (i := j) hj
    have ea := (h.step i _ hoi).mark a ha
    have eb := (h.step j _ hoj).mark b hb
    exact okPairs_spec hp (h.mem i _ a hoi ha) (h.mem j _ b hoj hb) (by rw [ea, eb]; exact hne) (by rw [ea, eb]; exact h1) (by rw [ea, eb]; exact h2)
  refine ⟨fun i hi k hk => ?_, fun i j hi hj hne h1 h2 k hk hw => ?_, fun i j hi hj hne h1 h2 k hk hw => ?_, fun i j h => h.1⟩
  · have ho := Array.getElem?_eq_getElem (xs := ops) (i := i) hi
    exact (h.step i _ ho).heap ok k fun m hm hmem => hk ⟨m, hm, hmem⟩
  · obtain ⟨a, ha, hk⟩ := hk
    obtain ⟨b, hb, hw⟩ := hw
    have ap := pair i j hi hj hne h1 h2 a b ha hb
    rcases hk with hk | hk
    · exact ap.1 k hk hw
    · rw [ap.2.2.2.1 hk] at hw; simp at hw
  · obtain ⟨a, ha, hk⟩ := hk
    obtain ⟨b, hb, hw⟩ := hw
    exact (pair i j hi hj hne h1 h2 a b ha hb).2.2.1 k hk hw

theorem any_run {s' : St} {ms' : List Mk} {st : Nat → St} {mk : Nat → Option Mk} (ok : SOK E S) (h : Run E S base ops s s' ms' st mk) (hp : okPairs (Region.before ops).toList ms' = true) (ht : tempsOK ops = true) (he : edgesOK ops = true)
    {Q : Exit → Act → World → Prop} {X0 : Ctx} (hq : ∀ a' w' X', Le X0 X' → X'.h = s'.h.get → Rel E X' s'.get s.tm.length a' w' → Q .normal a' w') :
    ∀ (fuel : Nat) (listed : Array Bool) (tm : Nat → T) (X : Ctx) (a : Act) (w : World), listed.size = ops.size → cnt listed ops.size ≤ fuel → Shut ops (fun j => listed.getD j false = true) →
      (schedT ops st).Agree (fun j => listed.getD j false = true) tm → (schedH ops st mk).Agree (fun j => listed.getD j false = true) X.h → Le X0 X → Rel E X tm s.tm.length a w →
      wpAny E.P .any ops Q fuel listed a w := by
  have okT := schedT_ok h ht
  have okH := schedH_ok ok h hp
  have fin : ∀ {listed : Array Bool} {tm : Nat → T} {X : Ctx} {a : Act} {w : World}, (∀ j, j < ops.size → listed.getD j false = true) → (schedT ops st).Agree (fun j => listed.getD j false = true) tm → (schedH ops st mk).Agree (fun j => listed.getD j false = true) X.h → Le X0 X → Rel E X tm s.tm.length a w → Q .normal a w := by
    intro listed tm X a w all at' ah le r
    have e1 : tm = s'.get := by
      funext t
      have := (schedT ops st).done okT at' all t
      rw [this]
      show (st ops.size).get t = _
      rw [h.hn]
    have e2 : X.h = s'.h.get := by
      funext id
      have := (schedH ops st mk).done okH ah all id
      rw [this]
      show (st ops.size).h.get id = _
      rw [h.hn]
    subst e1
    exact hq a w X le e2 r
  have notAll : ∀ {listed : Array Bool}, listed.size = ops.size → Region.ready .any ops listed = [] → ∀ j, j < ops.size → listed.getD j false = true := by
    intro listed hsz hr j
    induction j using Nat.strongRecOn with
    | _ j ih =>
      intro hj
      cases hl : listed.getD j false with
      | true => rfl
      | false =>
        exfalso
        have ho := Array.getElem?_eq_getElem (xs := ops) (i := j) hj
        have hm : j ∈ Region.ready .any ops listed := by
          rw [mem_ready]
          refine ⟨?_, _, ho, fun e hme hb => ih e.on (edgesOK_spec he ho hme hb) (Nat.lt_trans (edgesOK_spec he ho hme hb) hj)⟩
          have hlt : j < listed.size := by omega
          simp [hlt] at hl ⊢
          exact hl
        rw [hr] at hm
        simp at hm
  intro fuel
  induction fuel with
  | zero =>
    intro listed tm X a w hsz hc hL at' ah le r
    have all := cnt_zero (Nat.le_zero.1 hc)
    refine ⟨?_, fin all at' ah le r⟩
    apply List.eq_nil_iff_forall_not_mem.2
    intro j hm
    rw [mem_ready] at hm
    obtain ⟨h1, o, ho, _⟩ := hm
    have hlt : j < ops.size := (Array.getElem?_eq_some_iff.1 ho).1
    have := all j hlt
    have hlt' : j < listed.size := by omega
    simp [hlt'] at h1 this
    rw [this] at h1
    simp at h1
  | succ fuel ih =>
    intro listed tm X a w hsz hc hL at' ah le r
    refine ⟨fun hr => fin (notAll hsz hr) at' ah le r, fun i hi => ?_⟩
    rw [mem_ready] at hi
    obtain ⟨hi0, o, ho, hed⟩ := hi
    have hlt : i < ops.size := (Array.getElem?_eq_some_iff.1 ho).1
    have hlt' : i < listed.size := by omega
    have hnl : listed.getD i false = false := by
      simp [hlt'] at hi0 ⊢
      exact hi0
    have hn : ¬ (listed.getD i false = true) := by rw [hnl]; simp
    have hb : ∀ j, Bf ops j i → listed.getD j false = true := fun j hj => before_shut hL ho hj.2 hed
    have hcl : ∀ j, listed.getD j false = true → ∀ l, Bf ops l j → listed.getD l false = true := by
      intro j hj l hl
      have hjs : j < ops.size := by
        rcases Nat.lt_or_ge j listed.size with hh | hh
        · omega
        · simp [Array.getElem?_eq_none hh] at hj
      have hoj := Array.getElem?_eq_getElem (xs := ops) (i := j) hjs
      exact before_shut hL hoj hl.2 fun e hme hbe => hL j _ hj hoj e hme hbe
    have readT := (schedT ops st).reads okT at' hlt hn hb hcl
    have readH := (schedH ops st mk).reads okH ah hlt hn hb hcl
    have hlen := h.len i (by omega)
    have r' : Rel E X tm (st i).tm.length a w := by rw [hlen]; exact r
    refine stp_sound ok (h.step i o ho) r' ho (fun t htl => readT t ⟨o, ho, htl⟩) (fun m hm => ⟨fun id hid => readH id ⟨m, hm, .inl hid⟩, fun hcall => funext fun id => readH id ⟨m, hm, .inr hcall⟩⟩) ?_
    intro a' w' X' le' r2 hX'
    rw [hlen] at r2
    have eqL : (fun j => (listed.setIfInBounds i true).getD j false = true) = fun j => listed.getD j false = true ∨ j = i := by
      funext j
      rw [getD_set hlt']
      by_cases e : i = j
      · subst e; simp
      · have e' : ¬ j = i := fun x => e x.symm
        simp [e, e']
    refine ih (listed.setIfInBounds i true) _ X' a' w' (by simp [hsz]) ?_ ?_ ?_ ?_ (le.trans le') r2
    · have := cnt_set hlt' hnl ops.size
      rw [if_pos hlt] at this
      omega
    · rw [eqL]
      intro j q hj hq e hme hbe
      rcases hj with hj | rfl
      · exact .inl (hL j q hj hq e hme hbe)
      · rw [ho] at hq
        cases hq
        exact .inl (hed e hme hbe)
    · rw [eqL]
      refine (schedT ops st).step okT at' hlt hn hb hcl (fun k hk => ?_) (fun k hk => ?_)
      · obtain ⟨q, hq, hd⟩ := hk
        rw [ho] at hq
        cases hq
        rw [if_pos hd]
        rfl
      · rw [if_neg fun hd => hk ⟨o, ho, hd⟩]
    · rw [eqL]
      refine (schedH ops st mk).step okH ah hlt hn hb hcl (fun k hk => ?_) (fun k hk => ?_)
      · obtain ⟨m, hm, hw⟩ := hk
        rw [hX' k, hm]
        simp only [heapAfter]
        rw [if_pos hw]
        rfl
      · rw [hX' k]
        cases hm : mk i with
        | none => rfl
        | some m =>
          simp only [heapAfter]
          rw [if_neg fun hw => hk ⟨m, hm, hw⟩]

theorem region_any {α : Type} (ok : SOK E S) (hmix : E.P.follows .mixedOrders = true) (ht : tempsOK ops = true) (he : edgesOK ops = true) {id : Nat} {κ : St → Option α} {x : α}
    (h : runOps E S base ops ops.toList 0 s [] (fun s ms => match okPairs (Region.before ops).toList ms with
      | true => κ s
      | false => none) = some x) {Q : Exit → Act → World → Prop} {X : Ctx} {a : Act} {w : World} (r : Rel E X s.get s.tm.length a w) (hXh : X.h = s.h.get)
    (hq : ∀ s' a' w' X', κ s' = some x → Le X X' → X'.h = s'.h.get → s'.tm.length = s.tm.length → Rel E X' s'.get s'.tm.length a' w' → Q .normal a' w') : (Code.region id ops true).wp E.P Q a w := by
  obtain ⟨s', ms', htr, hk⟩ := runOps_trace ok h
  cases hp : okPairs (Region.before ops).toList ms' with
  | false => rw [hp] at hk; simp at hk
  | true =>
    rw [hp] at hk
    simp only at hk
    obtain ⟨st, mk, hrun⟩ := Run.of htr
    have hlen : s'.tm.length = s.tm.length := by
      have := hrun.len ops.size (Nat.le_refl _)
      rw [hrun.hn] at this
      exact this
    refine wp_region_any hmix ?_
    have e0 : (fun j => (Array.replicate ops.size false).getD j false = true) = fun _ => False := by
      funext j
      simp only [Array.getD_eq_getD_getElem?, Array.getElem?_replicate]
      split <;> simp
    refine any_run ok hrun hp ht he (X0 := X) (fun a' w' X' le h1 h2 => hq s' a' w' X' hk le h1 hlen (by rw [hlen]; exact h2)) ops.size (Array.replicate ops.size false) s.get X a { w with drawn := w.drawn + 1 } (by simp) (cnt_le _ _) ?_ ?_ ?_ (.refl X) ?_
    · rw [e0]; exact fun _ _ hf => hf.elim
    · rw [e0]
      have := (schedT ops st).start
      have e : (schedT ops st).st 0 = s.get := by funext t; show (st 0).get t = _; rw [hrun.h0]
      rw [e] at this
      exact this
    · rw [e0]
      have := (schedH ops st mk).start
      have e : (schedH ops st mk).st 0 = X.h := by funext t; show (st 0).h.get t = _; rw [hrun.h0, hXh]
      rw [e] at this
      exact this
    · exact ⟨r.heap, r.rep, r.tmp, r.len, r.glob, r.dfr⟩
end
end Go.Ex
