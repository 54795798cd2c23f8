import Derived.Test.YtfnpmhhlhlbclaaDoorDtC
namespace Go.Ex
open Go.Proofs
set_option maxRecDepth 100000
/-! ### findings: Compare -/
structure Fi where
  kind : Int
  at' : Pl
  what : ByteArray
  nil : Bool
  path : List Pl
def Fi.ds (f : Fi) : List D := [.v (.int .i64 f.kind), .v (.string f.at'.c), .v (.string f.at'.m), .v (.int .i64 f.at'.n), .v (.string f.what), pathD f.nil f.path]
def Fi.t (f : Fi) : T := .agg (f.ds.map .d)
def or4 (a b c d : Int) : Int := match decide (a = 0) with
  | false => a
  | true => or3 b c d
def cmpF (f g : Fi) : Int := or4 (cmpP f.at' g.at') (cmpI f.kind g.kind) (cmpS f.what g.what) (cmpL f.path g.path)

def has8 (f : FuncId) : Bool := match f with
  | 20 => true
  | 21 => true
  | 22 => true
  | 23 => true
  | 24 => true
  | 25 => true
  | 26 => true
  | _ => false
def only23 (f : FuncId) : Bool := match f with
  | 23 => true
  | _ => false
def sumC {α : Type} (f : FuncId) (args : List T) (κ : T → Option α) : Option α := orSum only23 @sum23 @sumP f args κ
theorem toldC : Told E1 @sumC := told23.or toldP only23
noncomputable def KC : Calls' := (deep E1 @sumC has8 nokeep 5000 1).next E1 nokeep 5000
theorem t8 {α : Type} (f g : Fi) (κ : T → Option α) : KC.pure 8 [f.t, g.t] κ =
    br (okPls f.path.length (fun k => (f.path.getD k default).d) && okPls g.path.length (fun k => (g.path.getD k default).d))
      (br (cmpP f.at' g.at' != 0) (κ (intT .i64 (cmpP f.at' g.at'))) (br (cmpI f.kind g.kind != 0) (κ (intT .i64 (cmpI f.kind g.kind))) (br (cmpS f.what g.what != 0) (κ (intT .i64 (cmpS f.what g.what)))
        (br (cmpL (plsOf f.path.length fun k => (f.path.getD k default).d) (plsOf g.path.length fun k => (g.path.getD k default).d) != 0) (κ (intT .i64 (cmpL (plsOf f.path.length fun k => (f.path.getD k default).d) (plsOf g.path.length fun k => (g.path.getD k default).d)))) (κ (intT .i64 0)))))) none := by kernel_rfl
theorem s8 (f g : Fi) (hf : f.path.length ≤ 4200) (hg : g.path.length ≤ 4200) : Says E1 8 [f.t, g.t] (intT .i64 (cmpF f g)) := by
  refine toldC.rund has8 nokeep 5000 1 ((t8 f g some).trans ?_)
  rw [okPls_path hf, okPls_path hg, plsOf_path, plsOf_path]
  unfold cmpF or4 or3
  generalize cmpP f.at' g.at' = a
  generalize cmpI f.kind g.kind = b
  generalize cmpS f.what g.what = c
  generalize cmpL f.path g.path = d
  by_cases h1 : a = 0 <;> by_cases h2 : b = 0 <;> by_cases h3 : c = 0 <;> by_cases h4 : d = 0 <;> simp [h1, h2, h3, h4, br, bne0]

/-! ### the reference's Compare -/
def keep9 (_ r : Nat) : Option Keep := match r with
  | 11 => some { tm := [2, 3, 8], ids := [2359296, 2359297] }
  | _ => none
def st9 (f g : Fi) (i : Int) : St :=
  { tm := [.any, .any, .one (.ptr 2359296 0 0 0), .one (.ptr 2359297 0 0 0), .any, .any, .any, .any, intT .i64 i] ++ List.replicate 60 .any, h := [(2359296, ⟨0, .dat false 6 [f.ds]⟩), (2359297, ⟨0, .dat false 6 [g.ds]⟩)] }
theorem start9 {α : Type} (fuel : Nat) (f g : Fi) (κ : T → Option α) : ((asks @sumP).next E1 keep9 fuel).pure 9 [f.t, g.t] κ =
    br (cmpP f.at' g.at' != 0) (κ (intT .i64 (cmpP f.at' g.at'))) (br (cmpI f.kind g.kind != 0) (κ (intT .i64 (cmpI f.kind g.kind))) (br (cmpS f.what g.what != 0) (κ (intT .i64 (cmpS f.what g.what)))
      (loopAt E1 (asks @sumP) (keep9 9) fuel 9 (pureK κ) fuel (st9 f g 0)))) := by kernel_rfl
theorem step9 {α : Type} (fuel m : Nat) (f g : Fi) (i : Int) (κ : T → Option α) : loopAt E1 (asks @sumP) (keep9 9) fuel 9 (pureK κ) (m + 1) (st9 f g i) =
    br (decide (i < (f.path.length : Int))) (br (decide (i < (g.path.length : Int)))
      (br (decide (0 ≤ i)) (br (decide (i < (f.path.length : Int))) (br (decide (0 ≤ i)) (br (decide (i < (g.path.length : Int)))
        (br (cmpP (f.path.getD i.toNat default) (g.path.getD i.toNat default) != 0) (κ (intT .i64 (cmpP (f.path.getD i.toNat default) (g.path.getD i.toNat default))))
          (loopAt E1 (asks @sumP) (keep9 9) fuel 9 (pureK κ) m (st9 f g (IntKind.i64.wrap (i + 1))))) none) none) none) none)
      (κ (intT .i64 (cmpI f.path.length g.path.length)))) (κ (intT .i64 (cmpI f.path.length g.path.length))) := by kernel_rfl
theorem rounds9 {α : Type} (fuel : Nat) (f g : Fi) (κ : T → Option α) (hs : f.path.length < 1073741824) : ∀ (m k : Nat), k ≤ f.path.length → k ≤ g.path.length → f.path.length < k + m →
    loopAt E1 (asks @sumP) (keep9 9) fuel 9 (pureK κ) m (st9 f g k) = κ (intT .i64 (cmpL (f.path.drop k) (g.path.drop k)))
  | 0, k, h1, h2, h3 => by omega
  | m + 1, k, h1, h2, h3 => by
    rw [step9]
    have c2 : decide (0 ≤ (k : Int)) = true := by simp
    by_cases hk : k < f.path.length
    · have c1 : decide ((k : Int) < (f.path.length : Int)) = true := by simp; omega
      rw [List.drop_eq_getElem_cons hk]
      by_cases hq : k < g.path.length
      · have c4 : decide ((k : Int) < (g.path.length : Int)) = true := by simp; omega
        have e1 : f.path.getD (k : Int).toNat default = f.path[k] := by simp [List.getD, hk]
        have e2 : g.path.getD (k : Int).toNat default = g.path[k] := by simp [List.getD, hq]
        rw [List.drop_eq_getElem_cons hq]
        simp only [c1, c2, c4, br, e1, e2, cmpL]
        cases hc : cmpP f.path[k] g.path[k] != 0 with
        | true => rfl
        | false =>
          simp only
          rw [wrap_id (by omega) (by omega)]
          exact rounds9 fuel f g κ hs m (k + 1) (by omega) (by omega) (by omega)
      · have c3 : decide ((k : Int) < (g.path.length : Int)) = false := by simp; omega
        have e : g.path.drop k = [] := List.drop_eq_nil_of_le (by omega)
        have c5 : cmpI f.path.length g.path.length = 1 := by
          have h1 : decide ((f.path.length : Int) < (g.path.length : Int)) = false := by simp; omega
          have h2 : decide ((g.path.length : Int) < (f.path.length : Int)) = true := by simp; omega
          simp only [cmpI, h1, h2]
        simp only [c1, c3, br, e, cmpL, c5]
    · have c1 : decide ((k : Int) < (f.path.length : Int)) = false := by simp; omega
      have e : f.path.drop k = [] := List.drop_eq_nil_of_le (by omega)
      have hkk : k = f.path.length := by omega
      simp only [c1, br, e]
      by_cases hq : k < g.path.length
      · have c5 : cmpI f.path.length g.path.length = -1 := by
          have h1 : decide ((f.path.length : Int) < (g.path.length : Int)) = true := by simp; omega
          simp only [cmpI, h1]
        rw [List.drop_eq_getElem_cons hq]
        simp only [c5, cmpL]
      · have c5 : cmpI f.path.length g.path.length = 0 := by
          have h1 : decide ((f.path.length : Int) < (g.path.length : Int)) = false := by simp; omega
          have h2 : decide ((g.path.length : Int) < (f.path.length : Int)) = false := by simp; omega
          simp only [cmpI, h1, h2]
        have e' : g.path.drop k = [] := List.drop_eq_nil_of_le (by omega)
        simp only [c5, e', cmpL]
theorem s9 (f g : Fi) (hf : f.path.length ≤ 4200) : Says E1 9 [f.t, g.t] (intT .i64 (cmpF f g)) := by
  refine toldP.run keep9 5000 ((start9 5000 f g some).trans ?_)
  have e : loopAt E1 (asks @sumP) (keep9 9) 5000 9 (pureK some) 5000 (st9 f g 0) = some (intT .i64 (cmpL (f.path.drop 0) (g.path.drop 0))) := rounds9 5000 f g some (by omega) 5000 0 (by omega) (by omega) (by omega)
  rw [e]
  simp only [List.drop_zero]
  unfold cmpF or4 or3
  generalize cmpP f.at' g.at' = a
  generalize cmpI f.kind g.kind = b
  generalize cmpS f.what g.what = c
  generalize cmpL f.path g.path = d
  by_cases h1 : a = 0 <;> by_cases h2 : b = 0 <;> by_cases h3 : c = 0 <;> simp [h1, h2, h3, br, bne0]
end Go.Ex
