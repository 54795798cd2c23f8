import Derived.Test.YtfnpmhhlhlbclaaDoorDtB
namespace Go.Ex
open Go.Proofs
set_option maxRecDepth 100000
/-! ### paths, findings -/
theorem wrap_id {n : Int} (h0 : -9223372036854775808 ≤ n) (h1 : n < 9223372036854775808) : IntKind.i64.wrap n = n := by
  simp only [IntKind.wrap, IntKind.bits, IntKind.signed]
  simp
  split <;> omega
def pathD (nil : Bool) (ps : List Pl) : D := .rof nil 3 ps.length fun k => (ps.getD k default).d
def pathT (nil : Bool) (ps : List Pl) : T := .one (.d (pathD nil ps))
def fn20 : T := .one (.d (.v (.func (.func 20) #[] #[])))
/-- a place out of its cells -/
def plOf : List D → Pl
  | [.v (.string c), .v (.string m), .v (.int .i64 n)] => ⟨c, m, n⟩
  | _ => default
def isPl : List D → Bool
  | [.v (.string _), .v (.string _), .v (.int .i64 _)] => true
  | _ => false
def plsOf (n : Nat) (get : Nat → List D) : List Pl := (List.range n).map fun k => plOf (get k)
def okPls (n : Nat) (get : Nat → List D) : Bool := Nat.ble n 4200 && (List.range n).all fun k => isPl (get k)
theorem isPl_eq {l : List D} (h : isPl l = true) : l = (plOf l).d := by
  unfold isPl at h
  split at h
  · rfl
  · simp at h
theorem plsOf_path (ps : List Pl) : plsOf ps.length (fun k => (ps.getD k default).d) = ps := by
  refine List.ext_getElem (by simp [plsOf]) fun k h1 h2 => ?_
  simp [plsOf, h2, plOf, Pl.d]
theorem okPls_path {ps : List Pl} (h : ps.length ≤ 4200) : okPls ps.length (fun k => (ps.getD k default).d) = true := by
  simp only [okPls, Bool.and_eq_true, List.all_eq_true]
  exact ⟨Nat.ble_eq_true_of_le h, fun k _ => by simp [isPl, Pl.d]⟩
/-- rows that are places -/
theorem rof_eq {n : Nat} {get : Nat → List D} (h : okPls n get = true) {X : Ctx} {nil : Bool} {v : Value} (hr : RepT X (.one (.d (.rof nil 3 n get))) v) : RepT X (pathT nil (plsOf n get)) v := by
  simp only [okPls, Bool.and_eq_true, List.all_eq_true] at h
  have hl : (plsOf n get).length = n := by simp [plsOf]
  have hg : ∀ i, i < n → ((plsOf n get).getD i default).d = get i := fun i hi => by
    have := isPl_eq (h.2 i (by simpa using hi))
    simp [plsOf, hi, ← this]
  cases hr with | one _ _ hr => cases hr with | d _ _ hr =>
  refine .one _ _ (.d _ _ ?_)
  unfold pathD
  generalize hq : (fun k => ((plsOf n get).getD k default).d) = q
  rw [hl]
  have hq : ∀ i, i < n → q i = get i := fun i hi => by rw [← hq]; exact hg i hi
  cases hr with
  | rofn => exact .rofn 3 q
  | rofz _ _ a cap => exact .rofz 3 q a cap
  | rof _ _ _ b off cap g hcap hsz hb hc hr =>
    exact .rof 3 n q b off cap g hcap (fun i hi => by rw [hq i hi]; exact hsz i hi) hb (fun i j d hi hj => hc i j d hi (by rw [← hq i hi]; exact hj)) (fun i j d hi hj => hr i j d hi (by rw [← hq i hi]; exact hj))

/-- the same data, told otherwise -/
theorem Says.args {E : Env} {g : FuncId} {a b : List T} {r : T} (h : Says E g b r) (hab : ∀ X vals, RepTs X a vals → RepTs X b vals) : Says E g a r :=
  ⟨h.1, fun X w vals h1 h2 h3 h4 h5 => h.2 X w vals h1 h2 h3 h4 (hab X vals h5)⟩

def cmpL : List Pl → List Pl → Int
  | [], [] => 0
  | [], _ :: _ => -1
  | _ :: _, [] => 1
  | p :: ps, q :: qs => match cmpP p q != 0 with
    | true => cmpP p q
    | false => cmpL ps qs

def sumP' {α : Type} (f : FuncId) (args : List T) (κ : T → Option α) : Option α := match f, args with
  | 20, [.agg [.d (.v (.string c)), .d (.v (.string m)), .d (.v (.int .i64 n))], .agg [.d (.v (.string c')), .d (.v (.string m')), .d (.v (.int .i64 n'))]] => κ (intT .i64 (cmpP ⟨c, m, n⟩ ⟨c', m', n'⟩))
  | 24, [.agg [.d (.v (.string c)), .d (.v (.string m)), .d (.v (.int .i64 n))], .agg [.d (.v (.string c')), .d (.v (.string m')), .d (.v (.int .i64 n'))]] => κ (intT .i64 (cmpP ⟨c, m, n⟩ ⟨c', m', n'⟩))
  | _, _ => none
theorem toldP' : Told E1 @sumP' := by
  intro α f args κ x h
  unfold sumP' at h
  split at h
  · exact ⟨_, h, fun _ => rfl, s20 ⟨_, _, _⟩ ⟨_, _, _⟩⟩
  · exact ⟨_, h, fun _ => rfl, s24 ⟨_, _, _⟩ ⟨_, _, _⟩⟩
  · simp at h
def sumP {α : Type} (f : FuncId) (args : List T) (κ : T → Option α) : Option α := orSum hasB @sumB @sumP' f args κ
theorem toldP : Told E1 @sumP := toldB.or toldP' hasB

/-! ### slices.CompareFunc -/
def keep23 (_ r : Nat) : Option Keep := match r with
  | 2 => some { tm := [0, 1, 2, 11, 12, 13], ids := [] }
  | _ => none
def st23 (b b' : Bool) (ps qs : List Pl) (i : Int) : St :=
  { tm := [pathT b ps, pathT b' qs, fn20, .any, .any, .any, .any, .any, .any, .any, .any, pathT b ps, intT .i64 ps.length, intT .i64 i] ++ List.replicate 25 .any, h := [] }
theorem start23 {α : Type} (fuel : Nat) (b b' : Bool) (ps qs : List Pl) (κ : T → Option α) : ((asks @sumP).next E1 keep23 fuel).pure 23 [pathT b ps, pathT b' qs, fn20] κ = loopAt E1 (asks @sumP) (keep23 23) fuel 23 (pureK κ) fuel (st23 b b' ps qs 0) := by kernel_rfl
theorem step23 {α : Type} (fuel m : Nat) (b b' : Bool) (ps qs : List Pl) (i : Int) (κ : T → Option α) : loopAt E1 (asks @sumP) (keep23 23) fuel 23 (pureK κ) (m + 1) (st23 b b' ps qs i) =
    br (decide (i < (ps.length : Int))) (br (decide (0 ≤ i)) (br (decide (i < (ps.length : Int))) (br (decide (i ≥ (qs.length : Int))) (κ (intT .i64 1))
      (br (decide (0 ≤ i)) (br (decide (i < (qs.length : Int))) (br (cmpP (ps.getD i.toNat default) (qs.getD i.toNat default) != 0) (κ (intT .i64 (cmpP (ps.getD i.toNat default) (qs.getD i.toNat default))))
        (loopAt E1 (asks @sumP) (keep23 23) fuel 23 (pureK κ) m (st23 b b' ps qs (IntKind.i64.wrap (i + 1))))) none) none)) none) none)
      (br (decide ((ps.length : Int) < (qs.length : Int))) (κ (intT .i64 (-1))) (κ (intT .i64 0))) := by kernel_rfl

theorem rounds23 {α : Type} (fuel : Nat) (b b' : Bool) (ps qs : List Pl) (κ : T → Option α) (hs : ps.length < 1073741824) : ∀ (m k : Nat), k ≤ ps.length → k ≤ qs.length → ps.length < k + m →
    loopAt E1 (asks @sumP) (keep23 23) fuel 23 (pureK κ) m (st23 b b' ps qs k) = κ (intT .i64 (cmpL (ps.drop k) (qs.drop k)))
  | 0, k, h1, h2, h3 => by omega
  | m + 1, k, h1, h2, h3 => by
    rw [step23]
    by_cases hk : k < ps.length
    · have c1 : decide ((k : Int) < (ps.length : Int)) = true := by simp; omega
      have c2 : decide (0 ≤ (k : Int)) = true := by simp
      rw [List.drop_eq_getElem_cons hk]
      by_cases hq : k < qs.length
      · have c3 : decide ((k : Int) ≥ (qs.length : Int)) = false := by simp; omega
        have c4 : decide ((k : Int) < (qs.length : Int)) = true := by simp; omega
        have e1 : ps.getD (k : Int).toNat default = ps[k] := by simp [List.getD, hk]
        have e2 : qs.getD (k : Int).toNat default = qs[k] := by simp [List.getD, hq]
        rw [List.drop_eq_getElem_cons hq]
        simp only [c1, c2, c3, c4, br, e1, e2, cmpL]
        cases hc : cmpP ps[k] qs[k] != 0 with
        | true => rfl
        | false =>
          simp only
          rw [wrap_id (by omega) (by omega)]
          exact rounds23 fuel b b' ps qs κ hs m (k + 1) (by omega) (by omega) (by omega)
      · have c3 : decide ((k : Int) ≥ (qs.length : Int)) = true := by simp; omega
        have e : qs.drop k = [] := List.drop_eq_nil_of_le (by omega)
        simp only [c1, c2, c3, br, e, cmpL]
    · have c1 : decide ((k : Int) < (ps.length : Int)) = false := by simp; omega
      have e : ps.drop k = [] := List.drop_eq_nil_of_le (by omega)
      have hkk : k = ps.length := by omega
      simp only [c1, br, e]
      by_cases hq : k < qs.length
      · have c3 : decide ((ps.length : Int) < (qs.length : Int)) = true := by simp; omega
        rw [List.drop_eq_getElem_cons hq]
        simp only [c3, cmpL]
      · have c3 : decide ((ps.length : Int) < (qs.length : Int)) = false := by simp; omega
        have e' : qs.drop k = [] := List.drop_eq_nil_of_le (by omega)
        simp only [c3, e', cmpL]
theorem s23 (b b' : Bool) (ps qs : List Pl) (hs : ps.length ≤ 4200) : Says E1 23 [pathT b ps, pathT b' qs, fn20] (intT .i64 (cmpL ps qs)) := by
  refine toldP.run keep23 5000 ((start23 5000 b b' ps qs some).trans ?_)
  exact rounds23 5000 b b' ps qs some (by omega) 5000 0 (by omega) (by omega) (by omega)
def sum23 {α : Type} (f : FuncId) (args : List T) (κ : T → Option α) : Option α := match f, args with
  | 23, [.one (.d (.rof _ 3 n get)), .one (.d (.rof _ 3 n' get')), .one (.d (.v (.func (.func 20) ⟨[]⟩ ⟨[]⟩)))] => br (okPls n get && okPls n' get') (κ (intT .i64 (cmpL (plsOf n get) (plsOf n' get')))) none
  | _, _ => none
theorem RepTs.map3 {X : Ctx} {a b c a' b' c' : T} (ha : ∀ v, RepT X a v → RepT X a' v) (hb : ∀ v, RepT X b v → RepT X b' v) (hc : ∀ v, RepT X c v → RepT X c' v) {vals : List Value} (h : RepTs X [a, b, c] vals) : RepTs X [a', b', c'] vals := by
  obtain ⟨hl, hr⟩ := h
  refine ⟨hl, fun j t v h1 h2 => ?_⟩
  match j, h1 with
  | 0, h1 => cases h1; exact ha _ (hr 0 _ _ rfl h2)
  | 1, h1 => cases h1; exact hb _ (hr 1 _ _ rfl h2)
  | 2, h1 => cases h1; exact hc _ (hr 2 _ _ rfl h2)
theorem told23 : Told E1 @sum23 := by
  intro α f args κ x h
  unfold sum23 at h
  split at h
  · rename_i nl n get nl' n' get'
    cases hb : okPls n get && okPls n' get' with
    | false => rw [hb] at h; simp [br] at h
    | true =>
      rw [hb] at h
      refine ⟨_, h, fun κ' => by simp [sum23, hb, br], ?_⟩
      simp only [Bool.and_eq_true] at hb
      have hn : (plsOf n get).length ≤ 4200 := by
        have := hb.1
        simp only [okPls, Bool.and_eq_true] at this
        simpa [plsOf] using Nat.le_of_ble_eq_true this.1
      exact (s23 nl nl' _ _ hn).args fun X vals hr => RepTs.map3 (fun v => rof_eq hb.1) (fun v => rof_eq hb.2) (fun v h => h) hr
  · simp at h
end Go.Ex
