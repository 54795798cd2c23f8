import Derived.Test.YtfnpmhhlhlbclaaDoorDtE
namespace Go.Ex
open Go.Proofs
set_option maxRecDepth 100000
/-! ### keys -/
def sumN {α : Type} (f : FuncId) (args : List T) (κ : T → Option α) : Option α := match f, args with
  | 27, [.one (.d (.v (.int .i64 n)))] => br (int64 n) (κ (strT (itoaB n))) none
  | 28, [.one (.d (.v (.int .i64 n)))] => br (int64 n) (κ (strT (itoaB n))) none
  | _, _ => none
theorem toldN : Told E1 @sumN := by
  intro α f args κ x hx
  unfold sumN at hx
  split at hx
  · rename_i n
    cases hb : int64 n with
    | false => rw [hb] at hx; simp [br] at hx
    | true =>
      rw [hb] at hx
      refine ⟨_, hx, fun κ' => by simp [sumN, hb, br], ?_⟩
      simp only [int64, Bool.and_eq_true, decide_eq_true_eq] at hb
      exact itoa_says n hb.1 hb.2
  · rename_i n
    cases hb : int64 n with
    | false => rw [hb] at hx; simp [br] at hx
    | true =>
      rw [hb] at hx
      refine ⟨_, hx, fun κ' => by simp [sumN, hb, br], ?_⟩
      simp only [int64, Bool.and_eq_true, decide_eq_true_eq] at hb
      exact digits_says n hb.1 hb.2
  · simp at hx
def keyR {α : Type} (f : Fi) (κ : T → Option α) : Option α :=
  br (int64 f.kind) (addS (itoaB f.kind) ⟨#[32]⟩ fun s => addS s f.at'.c fun s => addS s ⟨#[46]⟩ fun s => addS s f.at'.m fun s => addS s ⟨#[35]⟩ fun s =>
    br (int64 f.at'.n) (addS s (itoaB f.at'.n) fun s => addS s ⟨#[32]⟩ fun s => addS s f.what fun s => κ (strT s)) none) none
def keyB (f : Fi) : ByteArray := itoaB f.kind ++ ⟨#[32]⟩ ++ f.at'.c ++ ⟨#[46]⟩ ++ f.at'.m ++ ⟨#[35]⟩ ++ itoaB f.at'.n ++ ⟨#[32]⟩ ++ f.what
theorem t10 {α : Type} (f : Fi) (κ : T → Option α) : ((asks @sumN).next E1 nokeep 5000).pure 10 [f.t] κ = keyR f κ := by kernel_rfl
theorem t11 {α : Type} (f : Fi) (κ : T → Option α) : ((asks @sumN).next E1 nokeep 5000).pure 11 [f.t] κ = keyR f κ := by kernel_rfl
/-- a finding whose numbers fit and whose texts are not too long -/
def okNum (f : Fi) : Bool := int64 f.kind && int64 f.at'.n && decide (f.at'.c.size ≤ 1152921504606846976) && decide (f.at'.m.size ≤ 1152921504606846976) && decide (f.what.size ≤ 1152921504606846976)
theorem size_app (a b : ByteArray) : (a ++ b).size = a.size + b.size := ByteArray.size_append
theorem keyR_eq {α : Type} {f : Fi} (h : okNum f = true) (κ : T → Option α) : keyR f κ = κ (strT (keyB f)) := by
  simp only [okNum, Bool.and_eq_true, decide_eq_true_eq] at h
  obtain ⟨⟨⟨⟨h1, h2⟩, h3⟩, h4⟩, h5⟩ := h
  have i1 : (itoaB f.kind).size ≤ 21 := by
    simp only [int64, Bool.and_eq_true, decide_eq_true_eq] at h1
    exact itoaB_size h1.1 h1.2
  have i2 : (itoaB f.at'.n).size ≤ 21 := by
    simp only [int64, Bool.and_eq_true, decide_eq_true_eq] at h2
    exact itoaB_size h2.1 h2.2
  have one : ∀ x : UInt8, (⟨#[x]⟩ : ByteArray).size = 1 := fun _ => rfl
  have add : ∀ {β : Type} (p q : ByteArray) (κ : ByteArray → Option β), p.size + q.size ≤ 9223372036854775807 → addS p q κ = κ (p ++ q) := fun p q κ h => by
    have : decide (p.size + q.size ≤ 9223372036854775807) = true := by simpa using h
    simp only [addS, this, br]
  unfold keyR keyB
  rw [h1]
  simp only [br]
  rw [add _ _ _ (by rw [one]; omega)]
  rw [add _ _ _ (by simp only [size_app, one]; omega)]
  rw [add _ _ _ (by simp only [size_app, one]; omega)]
  rw [add _ _ _ (by simp only [size_app, one]; omega)]
  rw [add _ _ _ (by simp only [size_app, one]; omega)]
  rw [h2]
  simp only
  rw [add _ _ _ (by simp only [size_app, one]; omega)]
  rw [add _ _ _ (by simp only [size_app, one]; omega)]
  rw [add _ _ _ (by simp only [size_app, one]; omega)]
theorem s10 {f : Fi} (h : okNum f = true) : Says E1 10 [f.t] (strT (keyB f)) := toldN.run nokeep 5000 ((t10 f some).trans (keyR_eq h some))
theorem s11 {f : Fi} (h : okNum f = true) : Says E1 11 [f.t] (strT (keyB f)) := toldN.run nokeep 5000 ((t11 f some).trans (keyR_eq h some))
end Go.Ex
