import Derived.Test.YtfnpmhhlhlbclaaDoorDtN
namespace Go.Ex
open Go.Proofs
set_option maxRecDepth 100000
/-! ### Clone of a path -/
def noD : D := .v (.slice none 0 0)
theorem t34n {α : Type} (n : Nat) (get : Nat → List D) (κ : T → Option α) : ((asks @nosum).next E1 nokeep 5000).pure 34 [.one (.d (.rof true 3 n get))] κ = κ (.one (.d noD)) := by kernel_rfl
theorem t34 {α : Type} (n : Nat) (get : Nat → List D) (κ : T → Option α) : ((asks @nosum).next E1 nokeep 5000).pure 34 [.one (.d (.rof false 3 n get))] κ =
    br (decide ((0 + ((List.range n).map get).length) * 40 ≤ 140737488355328)) (κ (.one (.d (.ro false 3 ([] ++ (List.range n).map get))))) none := by kernel_rfl

theorem Says.res {E : Env} {g : FuncId} {a : List T} {r r' : T} (h : Says E g a r) (hr : ∀ X v, RepT X r v → RepT X r' v) : Says E g a r' :=
  ⟨h.1, fun X w vals h1 h2 h3 h4 h5 => (h.2 X w vals h1 h2 h3 h4 h5).mono fun _ _ ⟨v, e, s, z, k, rep⟩ => ⟨v, e, s, z, k, hr _ _ rep⟩⟩
/-- what can't be handed in is answered at will -/
theorem Says.never {E : Env} {g : FuncId} {a : List T} {r : T} (hc : Callable E.P g) (h : ∀ X vals, ¬ RepTs X a vals) : Says E g a r :=
  ⟨hc, fun X _ vals _ _ _ _ h5 => (h X vals h5).elim⟩
theorem ro_rof {H : Array Obj} {Z : Nat → Prop} {sz : Nat} {es : List (List D)} {v : Value} (h : RepD H Z (.ro false sz es) v) : RepD H Z (.rof false sz es.length fun k => es.getD k []) v := by
  cases h with
  | roz _ a cap => exact .rofz _ _ a cap
  | ro _ _ b off cap g hcap hsz hb hc hr =>
    have look : ∀ i, i < es.length → es[i]? = some (es.getD i []) := fun i hi => by simp [List.getD, hi]
    exact .rof sz es.length _ b off cap g hcap (fun i hi => hsz i _ (look i hi)) (fun h => hb (fun e => by simp [e] at h)) (fun i j d hi hj => hc i _ j d (look i hi) hj) (fun i j d hi hj => hr i _ j d (look i hi) hj)
theorem rof_congr {H : Array Obj} {Z : Nat → Prop} {nl : Bool} {sz n : Nat} {get get' : Nat → List D} {v : Value} (h : RepD H Z (.rof nl sz n get) v) (hq : ∀ i, i < n → get' i = get i) : RepD H Z (.rof nl sz n get') v := by
  cases h with
  | rofn => exact .rofn _ _
  | rofz _ _ a cap => exact .rofz _ _ a cap
  | rof _ _ _ b off cap g hcap hsz hb hc hr =>
    exact .rof sz n get' b off cap g hcap (fun i hi => by rw [hq i hi]; exact hsz i hi) hb (fun i j d hi hj => hc i j d hi (by rw [← hq i hi]; exact hj)) (fun i j d hi hj => hr i j d hi (by rw [← hq i hi]; exact hj))
theorem s34 (nl : Bool) (ps : List Pl) (hp : ps.length ≤ 4200) : Says E1 34 [pathT nl ps] (pathT nl ps) := by
  cases nl with
  | true =>
    cases ps with
    | nil =>
      refine (nosum_told.run nokeep 5000 (t34n _ _ some)).res fun X v hv => ?_
      cases hv with | one _ _ hv => cases hv with | d _ _ hv =>
      cases hv
      exact .one _ _ (.d _ _ (.rofn 3 _))
    | cons p r =>
      refine Says.never (nosum_told.run nokeep 5000 (t34n 0 (fun _ => []) some)).1 fun X vals h => ?_
      obtain ⟨hl, hr⟩ := h
      match vals, hl with
      | [v], _ =>
      have := hr 0 _ v rfl rfl
      cases this with | one _ _ h => cases h with | d _ _ h =>
      unfold pathD at h
      generalize hn : (p :: r).length = n at h
      cases h
      simp at hn
  | false =>
    have hrun := t34 ps.length (fun k => (ps.getD k default).d) some
    have hg : decide ((0 + ((List.range ps.length).map fun k => (ps.getD k default).d).length) * 40 ≤ 140737488355328) = true := by
      simp only [List.length_map, List.length_range, decide_eq_true_eq]
      omega
    rw [hg] at hrun
    refine (nosum_told.run nokeep 5000 hrun).res fun X v hv => ?_
    cases hv with | one _ _ hv => cases hv with | d _ _ hv =>
    have := ro_rof hv
    have hl : ([] ++ (List.range ps.length).map fun k => (ps.getD k default).d).length = ps.length := by simp
    rw [hl] at this
    exact .one _ _ (.d _ _ (rof_congr this fun k hk => by simp [List.getD, hk]))
def sum34 {α : Type} (f : FuncId) (args : List T) (κ : T → Option α) : Option α := match f, args with
  | 34, [.one (.d (.rof nl 3 n get))] => br (okPls n get) (κ (pathT nl (plsOf n get))) none
  | _, _ => none
theorem told34 : Told E1 @sum34 := by
  intro α f args κ x hx
  unfold sum34 at hx
  split at hx
  · rename_i nl n get
    cases hb : okPls n get with
    | false => rw [hb] at hx; simp [br] at hx
    | true =>
      rw [hb] at hx
      refine ⟨_, hx, fun κ' => by simp only [sum34, hb, br], ?_⟩
      have hn : (plsOf n get).length ≤ 4200 := by
        simp only [okPls, Bool.and_eq_true] at hb
        simpa [plsOf] using Nat.le_of_ble_eq_true hb.1
      exact (s34 nl _ hn).args fun X vals hr => RepTs.map1 (fun v => rof_eq hb) hr
  · simp at hx
def has34 (f : FuncId) : Bool := match f with
  | 34 => true
  | _ => false
def hasS (f : FuncId) : Bool := match f with
  | 8 => true
  | 34 => true
  | _ => false
def sumS {α : Type} (f : FuncId) (args : List T) (κ : T → Option α) : Option α := orSum has34 @sum34 @sumT f args κ
theorem toldS : Told E1 @sumS := told34.or toldT has34

/-! ### Sort of three -/
def ltR {α : Type} (x y : Fi) (A B : Option α) : Option α := br (okFi x.t && okFi y.t) (br (decide (cmpF x.re y.re < 0)) A B) none
def eqR {α : Type} (x y : Fi) (A B : Option α) : Option α := br (okFi x.t && okFi y.t) (br (cmpF x.re y.re == 0) A B) none
def neR {α : Type} (x y : Fi) (A B : Option α) : Option α := br (okFi x.t && okFi y.t) (br (!(cmpF x.re y.re == 0)) A B) none
def rowsT (l : List Fi) : T := .one (.d (.ro false 6 (l.map Fi.ds)))
def finR {α : Type} (κ : T → Option α) : List Fi → List Fi → Option α
  | acc, [] => κ (rowsT acc)
  | acc, x :: r => br (okFi x.t) (finR κ (acc ++ [x.re]) r) none
def compR {α : Type} (κ : T → Option α) (x y z : Fi) : Option α :=
  eqR y x (neR z y (finR κ [] [x, z]) (finR κ [] [x])) (eqR z y (finR κ [] [x, y]) (finR κ [] [x, y, z]))
def ins3R {α : Type} (κ : T → Option α) (p q c : Fi) : Option α := ltR c q (ltR c p (compR κ c p q) (compR κ p c q)) (compR κ p q c)
def sort3R {α : Type} (κ : T → Option α) (a b c : Fi) : Option α := ltR b a (ins3R κ b a c) (ins3R κ a b c)
noncomputable def KS : Calls' := (deep E1 @sumS hasS nokeep 5000 6).next E1 nokeep 5000
theorem t16 {α : Type} (a b c : Fi) (κ : T → Option α) : KS.pure 16 [rowsT [a, b, c]] κ = sort3R κ a b c := by kernel_rfl
end Go.Ex
