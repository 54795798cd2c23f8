import Derived.Test.YtfnpmhhlhlbclaaDoorDtA
namespace Go.Ex
open Go.Proofs
set_option maxRecDepth 100000
/-! ### strings, numbers, places -/
def strT (a : ByteArray) : T := .one (.d (.v (.string a)))
def eqS (a b : ByteArray) : Bool := a.toList == b.toList
def ltS (a b : ByteArray) : Bool := Op.bytesLess a.toList b.toList

/-- the order of strings, of numbers -/
def cmpS (a b : ByteArray) : Int := match ltS a b with
  | true => -1
  | false => match eqS a b with
    | true => 0
    | false => 1
def cmpI (a b : Int) : Int := match decide (a < b) with
  | true => -1
  | false => match decide (b < a) with
    | true => 1
    | false => 0

def nohas (_ : FuncId) : Bool := false
noncomputable def K0 : Calls' := (deep E1 @nosum nohas nokeep 5000 1).next E1 nokeep 5000
theorem t22 {α : Type} (a b : ByteArray) (κ : T → Option α) : K0.pure 22 [strT a, strT b] κ =
    br (!(eqS a a)) (br (!(eqS b b)) (κ (intT .i64 0)) (κ (intT .i64 (-1))))
      (br (!(eqS b b)) (κ (intT .i64 1)) (br (ltS a b) (κ (intT .i64 (-1))) (br (!(ltS a b || eqS a b)) (κ (intT .i64 1)) (κ (intT .i64 0))))) := by kernel_rfl
theorem s22 (a b : ByteArray) : Says E1 22 [strT a, strT b] (intT .i64 (cmpS a b)) := by
  refine nosum_told.rund nohas nokeep 5000 1 ((t22 a b some).trans ?_)
  have e : ∀ a, eqS a a = true := fun a => by simp [eqS]
  simp only [e, Bool.not_true, br]
  unfold cmpS
  cases ltS a b <;> cases eqS a b <;> rfl
theorem t21 {α : Type} (a b : Int) (κ : T → Option α) : K0.pure 21 [intT .i64 a, intT .i64 b] κ =
    br (!(a == a)) (br (!(b == b)) (κ (intT .i64 0)) (κ (intT .i64 (-1))))
      (br (!(b == b)) (κ (intT .i64 1)) (br (decide (a < b)) (κ (intT .i64 (-1))) (br (decide (b < a)) (κ (intT .i64 1)) (κ (intT .i64 0))))) := by kernel_rfl
theorem s21 (a b : Int) : Says E1 21 [intT .i64 a, intT .i64 b] (intT .i64 (cmpI a b)) := by
  refine nosum_told.rund nohas nokeep 5000 1 ((t21 a b some).trans ?_)
  simp only [beq_self_eq_true, Bool.not_true, br]
  unfold cmpI
  cases decide (a < b) <;> cases decide (b < a) <;> rfl
theorem t26 {α : Type} (a b : ByteArray) (κ : T → Option α) : K0.pure 26 [strT a, strT b] κ =
    br (ltS a b) (κ (intT .i64 (-1))) (br (!(ltS a b || eqS a b)) (κ (intT .i64 1)) (κ (intT .i64 0))) := by kernel_rfl
theorem s26 (a b : ByteArray) : Says E1 26 [strT a, strT b] (intT .i64 (cmpS a b)) := by
  refine nosum_told.rund nohas nokeep 5000 1 ((t26 a b some).trans ?_)
  unfold cmpS
  cases ltS a b <;> cases eqS a b <;> rfl
theorem t25 {α : Type} (a b : Int) (κ : T → Option α) : K0.pure 25 [intT .i64 a, intT .i64 b] κ =
    br (decide (a < b)) (κ (intT .i64 (-1))) (br (decide (b < a)) (κ (intT .i64 1)) (κ (intT .i64 0))) := by kernel_rfl
theorem s25 (a b : Int) : Says E1 25 [intT .i64 a, intT .i64 b] (intT .i64 (cmpI a b)) := by
  refine nosum_told.rund nohas nokeep 5000 1 ((t25 a b some).trans ?_)
  unfold cmpI
  cases decide (a < b) <;> cases decide (b < a) <;> rfl

/-- what the comparisons of strings and numbers say -/
def sumB {α : Type} (f : FuncId) (args : List T) (κ : T → Option α) : Option α := match f, args with
  | 22, [.one (.d (.v (.string a))), .one (.d (.v (.string b)))] => κ (intT .i64 (cmpS a b))
  | 26, [.one (.d (.v (.string a))), .one (.d (.v (.string b)))] => κ (intT .i64 (cmpS a b))
  | 21, [.one (.d (.v (.int .i64 a))), .one (.d (.v (.int .i64 b)))] => κ (intT .i64 (cmpI a b))
  | 25, [.one (.d (.v (.int .i64 a))), .one (.d (.v (.int .i64 b)))] => κ (intT .i64 (cmpI a b))
  | _, _ => none
def hasB (f : FuncId) : Bool := match f with
  | 21 => true
  | 22 => true
  | 25 => true
  | 26 => true
  | _ => false
theorem toldB : Told E1 @sumB := by
  intro α f args κ x h
  unfold sumB at h
  split at h
  · exact ⟨_, h, fun _ => rfl, s22 _ _⟩
  · exact ⟨_, h, fun _ => rfl, s26 _ _⟩
  · exact ⟨_, h, fun _ => rfl, s21 _ _⟩
  · exact ⟨_, h, fun _ => rfl, s25 _ _⟩
  · simp at h

structure Pl where
  c : ByteArray
  m : ByteArray
  n : Int
instance : Inhabited Pl := ⟨⟨⟨#[]⟩, ⟨#[]⟩, 0⟩⟩
def Pl.d (p : Pl) : List D := [.v (.string p.c), .v (.string p.m), .v (.int .i64 p.n)]
def Pl.t (p : Pl) : T := .agg (p.d.map .d)
def or3 (a b c : Int) : Int := match decide (a = 0) with
  | false => a
  | true => match decide (b = 0) with
    | false => b
    | true => c
def cmpP (p q : Pl) : Int := or3 (cmpS p.c q.c) (cmpS p.m q.m) (cmpI p.n q.n)

noncomputable def KB : Calls' := (deep E1 @sumB hasB nokeep 5000 1).next E1 nokeep 5000
theorem t20 {α : Type} (p q : Pl) (κ : T → Option α) : KB.pure 20 [p.t, q.t] κ =
    br (!(cmpS p.c q.c == 0)) (κ (intT .i64 (cmpS p.c q.c))) (br (!(cmpS p.m q.m == 0)) (κ (intT .i64 (cmpS p.m q.m))) (br (!(cmpI p.n q.n == 0)) (κ (intT .i64 (cmpI p.n q.n))) (κ (intT .i64 0)))) := by kernel_rfl
theorem t24 {α : Type} (p q : Pl) (κ : T → Option α) : KB.pure 24 [p.t, q.t] κ =
    br (cmpS p.c q.c != 0) (κ (intT .i64 (cmpS p.c q.c))) (br (cmpS p.m q.m != 0) (κ (intT .i64 (cmpS p.m q.m))) (κ (intT .i64 (cmpI p.n q.n)))) := by kernel_rfl
theorem beq0 {a : Int} (h : ¬ a = 0) : (a == 0) = false := by simpa using h
theorem bne0 {a : Int} (h : ¬ a = 0) : (a != 0) = true := by simpa using h
theorem s20 (p q : Pl) : Says E1 20 [p.t, q.t] (intT .i64 (cmpP p q)) := by
  refine toldB.rund hasB nokeep 5000 1 ((t20 p q some).trans ?_)
  unfold cmpP or3
  generalize cmpS p.c q.c = a
  generalize cmpS p.m q.m = b
  generalize cmpI p.n q.n = c
  by_cases h1 : a = 0 <;> by_cases h2 : b = 0 <;> by_cases h3 : c = 0 <;> simp [h1, h2, h3, br, beq0]
theorem s24 (p q : Pl) : Says E1 24 [p.t, q.t] (intT .i64 (cmpP p q)) := by
  refine toldB.rund hasB nokeep 5000 1 ((t24 p q some).trans ?_)
  unfold cmpP or3
  generalize cmpS p.c q.c = a
  generalize cmpS p.m q.m = b
  generalize cmpI p.n q.n = c
  by_cases h1 : a = 0 <;> by_cases h2 : b = 0 <;> simp [h1, h2, br, bne0]
end Go.Ex
