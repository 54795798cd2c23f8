/- Exec, part Z: what a function answers, whoever runs it; summaries out of such answers. -/
import Derived.Test.YtfnpmhhlhlbclaaDoorExY
namespace Go.Ex

/-- the program's function answers `r` to `args`, and leaves the old memory alone -/
def Says (E : Env) (g : FuncId) (args : List T) (r : T) : Prop :=
  Callable E.P g ∧ ∀ (X : Ctx) (w : World) (vals : List Value), X.h = (fun _ => none) → (∀ b, X.F b → b < X.H.size) → X.Is w → GlobOK E X → RepTs X args vals →
    Calls E.P g vals.toArray w fun e w' => ∃ v, e = .returned v ∧ sysOf w' = sysOf w ∧ w.heap.size ≤ w'.heap.size ∧ (∀ b, b < w.heap.size → w'.heap[b]? = w.heap[b]?) ∧ RepT { X with H := w'.heap } r v

/-- a summary says what the functions say -/
def Told (E : Env) (sum : {α : Type} → FuncId → List T → (T → Option α) → Option α) : Prop :=
  ∀ {α : Type} f args (κ : T → Option α) x, sum f args κ = some x → ∃ r, κ r = some x ∧ (∀ {β : Type} (κ' : T → Option β), sum f args κ' = κ' r) ∧ Says E f args r

theorem SOK.says {E : Env} {S : Calls'} (ok : SOK E S) {g : FuncId} {args : List T} {r : T} (h : S.pure g args some = some r) : Says E g args r := ok.pure g args r h

/-- calls that ask a summary -/
def asks (sum : {α : Type} → FuncId → List T → (T → Option α) → Option α) : Calls' :=
  { pure := fun f args κ => sum f args κ, heap := fun _ _ _ _ => none }

theorem Told.ok {E : Env} {sum : {α : Type} → FuncId → List T → (T → Option α) → Option α} (h : Told E @sum) : SOK E (asks @sum) where
  pdet g args κ x hx := let ⟨r, h1, h2, _⟩ := h g args κ x hx; ⟨r, h1, h2⟩
  hdet g args hp κ x hx := by simp [asks] at hx
  pure g args r hx := by
    obtain ⟨r', h1, _, h3⟩ := h g args some r hx
    cases h1
    exact h3
  heap g args hp r h' ws hx := by simp [asks] at hx

/-- a function run over a summary of what it calls -/
theorem Told.says {E : Env} {sum : {α : Type} → FuncId → List T → (T → Option α) → Option α} (h : Told E @sum) (hmix : E.P.follows .mixedOrders = true) (hP : progOK E.P = true)
    (keeps : FuncId → Nat → Option Keep) (fuel : Nat) {g : FuncId} {args : List T} {r : T} (hr : ((asks @sum).next E keeps fuel).pure g args some = some r) : Says E g args r :=
  (h.ok.step hmix hP keeps fuel).says hr

/-- one summary for some functions, another for the others -/
def orSum (has : FuncId → Bool) (a b : {α : Type} → FuncId → List T → (T → Option α) → Option α) {α : Type} (f : FuncId) (args : List T) (κ : T → Option α) : Option α := match has f with
  | true => a f args κ
  | false => b f args κ
theorem Told.or {E : Env} {a b : {α : Type} → FuncId → List T → (T → Option α) → Option α} (ha : Told E @a) (hb : Told E @b) (has : FuncId → Bool) : Told E (@orSum has @a @b) := by
  intro α f args κ x h
  unfold orSum at h
  cases hf : has f with
  | true =>
    rw [hf] at h
    obtain ⟨r, h1, h2, h3⟩ := ha f args κ x h
    exact ⟨r, h1, fun κ' => by unfold orSum; rw [hf]; exact h2 κ', h3⟩
  | false =>
    rw [hf] at h
    obtain ⟨r, h1, h2, h3⟩ := hb f args κ x h
    exact ⟨r, h1, fun κ' => by unfold orSum; rw [hf]; exact h2 κ', h3⟩

/-- a summary first, else the calls -/
theorem Told.over {E : Env} {S : Calls'} {sum : {α : Type} → FuncId → List T → (T → Option α) → Option α} (h : Told E @sum) (ok : SOK E S) (has : FuncId → Bool) : SOK E (S.over has @sum) where
  pdet g args κ x hx := by
    simp only [Calls'.over] at hx ⊢
    cases hg : has g with
    | true =>
      rw [hg] at hx
      obtain ⟨r, h1, h2, _⟩ := h g args κ x hx
      exact ⟨r, h1, h2⟩
    | false => rw [hg] at hx; exact ok.pdet g args κ x hx
  hdet g args hp κ x hx := ok.hdet g args hp κ x hx
  pure g args r hx := by
    simp only [Calls'.over] at hx
    cases hg : has g with
    | true =>
      rw [hg] at hx
      obtain ⟨r', h1, _, h3⟩ := h g args some r hx
      cases h1
      exact h3
    | false => rw [hg] at hx; exact ok.pure g args r hx
  heap g args hp r h' ws hx := ok.heap g args hp r h' ws hx

/-- a summary, and some depths of calls that it does not speak of -/
def deep (E : Env) (sum : {α : Type} → FuncId → List T → (T → Option α) → Option α) (has : FuncId → Bool) (keeps : FuncId → Nat → Option Keep) (fuel : Nat) : Nat → Calls'
  | 0 => asks @sum
  | n + 1 => ((deep E @sum has keeps fuel n).next E keeps fuel).over has @sum

theorem Told.deep_ok {E : Env} {sum : {α : Type} → FuncId → List T → (T → Option α) → Option α} (h : Told E @sum) (hmix : E.P.follows .mixedOrders = true) (hP : progOK E.P = true)
    (has : FuncId → Bool) (keeps : FuncId → Nat → Option Keep) (fuel : Nat) : ∀ n, SOK E (deep E @sum has keeps fuel n)
  | 0 => h.ok
  | n + 1 => h.over ((h.deep_ok hmix hP has keeps fuel n).step hmix hP keeps fuel) has

/-! ### functions that write to what they are handed -/
def SaysH (E : Env) (g : FuncId) (args : List T) (hp : Heap) (r : T) (h' : Heap) (ws : List Nat) : Prop :=
  Callable E.P g ∧ (∀ id, id ∉ ws → h'.get id = hp.get id) ∧ ∀ (X : Ctx) (w : World) (vals : List Value), X.h = hp.get → X.Is w → RepH X → GlobOK E X → RepTs X args vals →
    Calls E.P g vals.toArray w fun e w' => ∃ v X', e = .returned v ∧ X'.Is w' ∧ X'.h = h'.get ∧ Le X X' ∧ RepH X' ∧ RepT X' r v

theorem SOK.saysH {E : Env} {S : Calls'} (ok : SOK E S) {g : FuncId} {args : List T} {hp h' : Heap} {r : T} {ws : List Nat} (h : S.heap g args hp (fun r h ws => some (r, h, ws)) = some (r, h', ws)) : SaysH E g args hp r h' ws := ok.heap g args hp r h' ws h

def ToldH (E : Env) (hsum : {α : Type} → FuncId → List T → Heap → (T → Heap → List Nat → Option α) → Option α) : Prop :=
  ∀ {α : Type} f args hp (κ : T → Heap → List Nat → Option α) x, hsum f args hp κ = some x → ∃ r h' ws, κ r h' ws = some x ∧ (∀ {β : Type} (κ' : T → Heap → List Nat → Option β), hsum f args hp κ' = κ' r h' ws) ∧ SaysH E f args hp r h' ws

/-- calls that ask two summaries -/
def asks2 (sum : {α : Type} → FuncId → List T → (T → Option α) → Option α) (hsum : {α : Type} → FuncId → List T → Heap → (T → Heap → List Nat → Option α) → Option α) : Calls' :=
  { pure := fun f args κ => sum f args κ, heap := fun f args hp κ => hsum f args hp κ }

theorem Told.ok2 {E : Env} {sum : {α : Type} → FuncId → List T → (T → Option α) → Option α} {hsum : {α : Type} → FuncId → List T → Heap → (T → Heap → List Nat → Option α) → Option α} (h : Told E @sum) (k : ToldH E @hsum) : SOK E (asks2 @sum @hsum) where
  pdet g args κ x hx := let ⟨r, h1, h2, _⟩ := h g args κ x hx; ⟨r, h1, h2⟩
  hdet g args hp κ x hx := let ⟨r, h', ws, h1, h2, _⟩ := k g args hp κ x hx; ⟨r, h', ws, h1, h2⟩
  pure g args r hx := by
    obtain ⟨r', h1, _, h3⟩ := h g args some r hx
    cases h1
    exact h3
  heap g args hp r h' ws hx := by
    obtain ⟨r0, h0, ws0, h1, _, h3⟩ := k g args hp _ _ hx
    cases h1
    exact h3

/-- a function that is handed a heap, run over two summaries -/
theorem Told.saysH {E : Env} {sum : {α : Type} → FuncId → List T → (T → Option α) → Option α} {hsum : {α : Type} → FuncId → List T → Heap → (T → Heap → List Nat → Option α) → Option α} (h : Told E @sum) (k : ToldH E @hsum)
    (hmix : E.P.follows .mixedOrders = true) (hP : progOK E.P = true) (keeps : FuncId → Nat → Option Keep) (fuel : Nat) {g : FuncId} {args : List T} {hp h' : Heap} {r : T} {ws : List Nat}
    (hr : ((asks2 @sum @hsum).next E keeps fuel).heap g args hp (fun r h ws => some (r, h, ws)) = some (r, h', ws)) : SaysH E g args hp r h' ws :=
  ((h.ok2 k).step hmix hP keeps fuel).saysH hr
theorem Told.says2 {E : Env} {sum : {α : Type} → FuncId → List T → (T → Option α) → Option α} {hsum : {α : Type} → FuncId → List T → Heap → (T → Heap → List Nat → Option α) → Option α} (h : Told E @sum) (k : ToldH E @hsum)
    (hmix : E.P.follows .mixedOrders = true) (hP : progOK E.P = true) (keeps : FuncId → Nat → Option Keep) (fuel : Nat) {g : FuncId} {args : List T} {r : T}
    (hr : ((asks2 @sum @hsum).next E keeps fuel).pure g args some = some r) : Says E g args r :=
  ((h.ok2 k).step hmix hP keeps fuel).says hr
theorem ToldH.or {E : Env} {a b : {α : Type} → FuncId → List T → Heap → (T → Heap → List Nat → Option α) → Option α} (ha : ToldH E @a) (hb : ToldH E @b) (has : FuncId → Bool) :
    ToldH E (fun {α} f args hp (κ : T → Heap → List Nat → Option α) => match has f with
      | true => a f args hp κ
      | false => b f args hp κ) := by
  intro α f args hp κ x h
  cases hf : has f with
  | true =>
    simp only [hf] at h ⊢
    exact ha f args hp κ x h
  | false =>
    simp only [hf] at h ⊢
    exact hb f args hp κ x h
end Go.Ex
