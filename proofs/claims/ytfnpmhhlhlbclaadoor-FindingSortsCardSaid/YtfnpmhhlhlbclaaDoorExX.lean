/- Exec, part X: summaries: what is proved of a call stands for running it. -/
import Derived.Test.YtfnpmhhlhlbclaaDoorExW
namespace Go.Ex

/-- the next depth -/
def Calls'.next (E : Env) (S : Calls') (keeps : FuncId → Nat → Option Keep) (fuel : Nat) : Calls' :=
  { pure := fun f args κ => pureBody E S (keeps f) fuel f args κ, heap := fun f args hp κ => heapBody E S (keeps f) fuel f args hp κ }

/-- with the answers of some functions given -/
def Calls'.over (S : Calls') (has : FuncId → Bool) (sum : {α : Type} → FuncId → List T → (T → Option α) → Option α) : Calls' :=
  { pure := fun f args κ => match has f with
      | true => sum f args κ
      | false => S.pure f args κ
    heap := fun f args hp κ => S.heap f args hp κ }

/-- a summary says what the calls say -/
def Sums (S : Calls') (has : FuncId → Bool) (sum : {α : Type} → FuncId → List T → (T → Option α) → Option α) : Prop :=
  ∀ {α : Type} f args (κ : T → Option α) x, has f = true → sum f args κ = some x → ∃ r, κ r = some x ∧ (∀ {β : Type} (κ' : T → Option β), sum f args κ' = κ' r) ∧ S.pure f args some = some r

theorem SOK.over {E : Env} {S : Calls'} (ok : SOK E S) {has : FuncId → Bool} {sum : {α : Type} → FuncId → List T → (T → Option α) → Option α} (h : Sums S has sum) : SOK E (S.over has sum) where
  pdet g args κ x hx := by
    simp only [Calls'.over] at hx ⊢
    cases hg : has g with
    | true =>
      rw [hg] at hx
      obtain ⟨r, h1, h2, _⟩ := h g args κ x hg hx
      exact ⟨r, h1, h2⟩
    | false => rw [hg] at hx; exact ok.pdet g args κ x hx
  hdet g args hp κ x hx := ok.hdet g args hp κ x hx
  pure g args r hx := by
    simp only [Calls'.over] at hx
    cases hg : has g with
    | true =>
      rw [hg] at hx
      obtain ⟨r', h1, _, h3⟩ := h g args some r hg hx
      cases h1
      exact ok.pure g args _ h3
    | false => rw [hg] at hx; exact ok.pure g args r hx
  heap g args hp r h' ws hx := ok.heap g args hp r h' ws hx

theorem SOK.step {E : Env} {S : Calls'} (ok : SOK E S) (hmix : E.P.follows .mixedOrders = true) (hP : progOK E.P = true) (keeps : FuncId → Nat → Option Keep) (fuel : Nat) : SOK E (S.next E keeps fuel) := ok.next hmix hP keeps fuel
end Go.Ex
