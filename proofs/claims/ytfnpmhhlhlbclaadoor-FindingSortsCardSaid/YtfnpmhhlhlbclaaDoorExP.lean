/- Exec, part P: operations in another order. What is said here is said of keys and values in general. -/
import Derived.Orders
namespace Go.Ex

/-- what each operation reads and writes, and the states of the run in the text's order -/
structure Sched (K V : Type) where
  n : Nat
  rd : Nat → K → Prop
  wr : Nat → K → Prop
  st : Nat → K → V
  bf : Nat → Nat → Prop

variable {K V : Type}

/-- the conditions: an operation changes what it writes; two operations that are in no order do not disturb each other -/
structure Sched.OK (T : Sched K V) : Prop where
  frame : ∀ i, i < T.n → ∀ k, ¬ T.wr i k → T.st (i + 1) k = T.st i k
  rw : ∀ i j, i < T.n → j < T.n → i ≠ j → ¬ T.bf i j → ¬ T.bf j i → ∀ k, T.rd i k → ¬ T.wr j k
  ww : ∀ i j, i < T.n → j < T.n → i ≠ j → ¬ T.bf i j → ¬ T.bf j i → ∀ k, T.wr i k → ¬ T.wr j k
  lt : ∀ i j, T.bf i j → i < j

/-- the state where the operations of a set have run, in whatever order -/
def Sched.Agree (T : Sched K V) (L : Nat → Prop) (σ : K → V) : Prop := ∀ k,
  (∃ j, L j ∧ j < T.n ∧ T.wr j k ∧ (∀ i, L i → i < T.n → T.wr i k → i ≤ j) ∧ σ k = T.st (j + 1) k) ∨ ((∀ j, L j → j < T.n → ¬ T.wr j k) ∧ σ k = T.st 0 k)

theorem Sched.start (T : Sched K V) : T.Agree (fun _ => False) (T.st 0) := fun _ => .inr ⟨fun _ h => h.elim, rfl⟩

/-- the text's state before an operation, by its last writer -/
theorem Sched.at (T : Sched K V) (ok : T.OK) (k : K) : ∀ i, i ≤ T.n → (∃ j, j < i ∧ T.wr j k ∧ (∀ l, l < i → T.wr l k → l ≤ j) ∧ T.st i k = T.st (j + 1) k) ∨ ((∀ j, j < i → ¬ T.wr j k) ∧ T.st i k = T.st 0 k)
  | 0, _ => .inr ⟨fun j h => by omega, rfl⟩
  | i + 1, hi => by
    by_cases hw : T.wr i k
    · exact .inl ⟨i, by omega, hw, fun l hl _ => by omega, rfl⟩
    · have hf := ok.frame i (by omega) k hw
      rcases Sched.at T ok k i (by omega) with ⟨j, h1, h2, h3, h4⟩ | ⟨h1, h2⟩
      · refine .inl ⟨j, by omega, h2, fun l hl hwl => ?_, hf.trans h4⟩
        by_cases e : l = i
        · subst e; exact absurd hwl hw
        · exact h3 l (by omega) hwl
      · refine .inr ⟨fun j hj hwj => ?_, hf.trans h2⟩
        by_cases e : j = i
        · subst e; exact hw hwj
        · exact h1 j (by omega) hwj

/-- what an operation that is ready reads lies as it lay in the text's order -/
theorem Sched.reads (T : Sched K V) (ok : T.OK) {L : Nat → Prop} {σ : K → V} (ag : T.Agree L σ) {i : Nat} (hi : i < T.n) (hn : ¬ L i) (hb : ∀ j, T.bf j i → L j) (hc : ∀ j, L j → ∀ l, T.bf l j → L l) :
    ∀ k, T.rd i k → σ k = T.st i k := by
  intro k hk
  have same : ∀ j, j < T.n → T.wr j k → (L j ↔ j < i) := by
    intro j hj hw
    constructor
    · intro hl
      have hne : i ≠ j := fun e => hn (e ▸ hl)
      by_cases h1 : T.bf i j
      · exact absurd (hc j hl i h1) hn
      · by_cases h2 : T.bf j i
        · exact ok.lt j i h2
        · exact absurd hw (ok.rw i j hi hj hne h1 h2 k hk)
    · intro hl
      have hne : i ≠ j := by omega
      by_cases h2 : T.bf j i
      · exact hb j h2
      · by_cases h1 : T.bf i j
        · have := ok.lt i j h1; omega
        · exact absurd hw (ok.rw i j hi hj hne h1 h2 k hk)
  rcases ag k with ⟨j, h1, h2, h3, h4, h5⟩ | ⟨h1, h2⟩ <;> rcases T.at ok k i (by omega) with ⟨l, g1, g2, g3, g4⟩ | ⟨g1, g2⟩
  · have a1 := (same j h2 h3).1 h1
    have a2 := (same l (by omega) g2).2 g1
    have : j = l := by
      have := h4 l a2 (by omega) g2
      have := g3 j a1 h3
      omega
    subst this
    exact h5.trans g4.symm
  · exact absurd h3 (g1 j ((same j h2 h3).1 h1))
  · exact absurd g2 (h1 l ((same l (by omega) g2).2 g1) (by omega))
  · exact h2.trans g2.symm

/-- one more operation -/
theorem Sched.step (T : Sched K V) (ok : T.OK) {L : Nat → Prop} {σ σ' : K → V} (ag : T.Agree L σ) {i : Nat} (hi : i < T.n) (hn : ¬ L i) (hb : ∀ j, T.bf j i → L j) (hc : ∀ j, L j → ∀ l, T.bf l j → L l)
    (h1 : ∀ k, T.wr i k → σ' k = T.st (i + 1) k) (h2 : ∀ k, ¬ T.wr i k → σ' k = σ k) : T.Agree (fun j => L j ∨ j = i) σ' := by
  intro k
  by_cases hw : T.wr i k
  · refine .inl ⟨i, .inr rfl, hi, hw, fun j hj hjn hwj => ?_, h1 k hw⟩
    rcases hj with hl | rfl
    · have hne : i ≠ j := fun e => hn (e ▸ hl)
      by_cases b1 : T.bf i j
      · exact absurd (hc j hl i b1) hn
      · by_cases b2 : T.bf j i
        · exact Nat.le_of_lt (ok.lt j i b2)
        · exact absurd hwj (ok.ww i j hi hjn hne b1 b2 k hw)
    · exact Nat.le_refl _
  · rw [h2 k hw]
    rcases ag k with ⟨j, g1, g2, g3, g4, g5⟩ | ⟨g1, g2⟩
    · refine .inl ⟨j, .inl g1, g2, g3, fun l hl hln hwl => ?_, g5⟩
      rcases hl with hl | rfl
      · exact g4 l hl hln hwl
      · exact absurd hwl hw
    · refine .inr ⟨fun j hj hjn hwj => ?_, g2⟩
      rcases hj with hl | rfl
      · exact g1 j hl hjn hwj
      · exact hw hwj

/-- where all have run -/
theorem Sched.done (T : Sched K V) (ok : T.OK) {L : Nat → Prop} {σ : K → V} (ag : T.Agree L σ) (all : ∀ j, j < T.n → L j) : ∀ k, σ k = T.st T.n k := by
  intro k
  rcases ag k with ⟨j, h1, h2, h3, h4, h5⟩ | ⟨h1, h2⟩ <;> rcases T.at ok k T.n (Nat.le_refl _) with ⟨l, g1, g2, g3, g4⟩ | ⟨g1, g2⟩
  · have : j = l := by
      have := h4 l (all l g1) g1 g2
      have := g3 j h2 h3
      omega
    subst this
    exact h5.trans g4.symm
  · exact absurd h3 (g1 j h2)
  · exact absurd g2 (h1 l (all l g1) g1)
  · exact h2.trans g2.symm

/-! ### which stand before -/
/-- a set of operations with all that stands before them -/
def Shut (ops : Array Oper) (L : Nat → Prop) : Prop := ∀ i o, L i → ops[i]? = some o → ∀ e ∈ o.after, Region.binds .any e = true → L e.on

theorem foldl_or_testBit (f : Edge → Nat) (b : Edge → Bool) (j : Nat) : ∀ (l : List Edge) (s : Nat), (l.foldl (fun s e => if b e then s ||| 2 ^ e.on ||| f e else s) s).testBit j = true →
    s.testBit j = true ∨ ∃ e ∈ l, b e = true ∧ (e.on = j ∨ (f e).testBit j = true)
  | [], s, h => .inl h
  | e :: l, s, h => by
    simp only [List.foldl_cons] at h
    rcases foldl_or_testBit f b j l _ h with h | ⟨e', h1, h2⟩
    · by_cases hb : b e = true
      · simp only [hb, if_true, Nat.testBit_or, Bool.or_eq_true, Nat.testBit_two_pow, decide_eq_true_eq] at h
        rcases h with (h | h) | h
        · exact .inl h
        · exact .inr ⟨e, by simp, hb, .inl h⟩
        · exact .inr ⟨e, by simp, hb, .inr h⟩
      · simp only [hb] at h
        exact .inl h
    · exact .inr ⟨e', by simp [h1], h2⟩

theorem before_aux (ops : Array Oper) {L : Nat → Prop} (hL : Shut ops L) : ∀ (rest : List Oper) (pre : List Oper) (acc : Array Nat), ops.toList = pre ++ rest → acc.size = pre.length →
    (∀ i o, i < pre.length → ops[i]? = some o → ∀ j, (acc.getD i 0).testBit j = true → (∀ e ∈ o.after, Region.binds .any e = true → L e.on) → L j) →
    ∀ i o, ops[i]? = some o → ∀ j, ((rest.foldl (fun acc o => acc.push (o.after.foldl (fun s e => if Region.binds .any e then s ||| 2 ^ e.on ||| acc.getD e.on 0 else s) 0)) acc).getD i 0).testBit j = true →
      (∀ e ∈ o.after, Region.binds .any e = true → L e.on) → L j
  | [], pre, acc, hp, hs, ih, i, o, ho, j, hj, he => by
    have hlt : i < pre.length := by
      have := (Array.getElem?_eq_some_iff.1 ho).1
      have hl : ops.size = pre.length := by rw [← Array.length_toList, hp]; simp
      omega
    exact ih i o hlt ho j hj he
  | q :: rest, pre, acc, hp, hs, ih, i, o, ho, j, hj, he => by
    simp only [List.foldl_cons] at hj
    refine before_aux ops hL rest (pre ++ [q]) _ (by simp [hp]) (by simp [hs]) (fun i o hi ho j hj he => ?_) i o ho j hj he
    by_cases hlt : i < pre.length
    · refine ih i o hlt ho j ?_ he
      have : (acc.push (q.after.foldl (fun s e => if Region.binds .any e then s ||| 2 ^ e.on ||| acc.getD e.on 0 else s) 0)).getD i 0 = acc.getD i 0 := by
        simp only [Array.getD_eq_getD_getElem?]
        rw [Array.getElem?_push, if_neg (by omega)]
      rw [this] at hj
      exact hj
    · have hi : i = pre.length := by simp at hi; omega
      subst hi
      have hq : o = q := by
        have : ops.toList[pre.length]? = some q := by rw [hp]; simp
        rw [Array.getElem?_toList, ho] at this
        exact Option.some.inj this
      subst hq
      have : (acc.push (o.after.foldl (fun s e => if Region.binds .any e then s ||| 2 ^ e.on ||| acc.getD e.on 0 else s) 0)).getD pre.length 0 = o.after.foldl (fun s e => if Region.binds .any e then s ||| 2 ^ e.on ||| acc.getD e.on 0 else s) 0 := by
        simp only [Array.getD_eq_getD_getElem?]
        rw [Array.getElem?_push, if_pos hs.symm]
        rfl
      rw [this, ← Array.foldl_toList] at hj
      rcases foldl_or_testBit (fun e => acc.getD e.on 0) (Region.binds .any) j _ _ hj with h | ⟨e, h1, h2, h3⟩
      · simp at h
      · have hm : e ∈ o.after := Array.mem_toList_iff.1 h1
        have hl := he e hm h2
        rcases h3 with rfl | h3
        · exact hl
        · by_cases hlt' : e.on < pre.length
          · have hlt2 : e.on < ops.size := by rw [← Array.length_toList, hp]; simp; omega
            exact ih e.on _ hlt' (Array.getElem?_eq_getElem hlt2) j h3 fun e' h1' h2' => hL e.on _ hl (Array.getElem?_eq_getElem hlt2) e' h1' h2'
          · have : acc.getD e.on 0 = 0 := by
              simp only [Array.getD_eq_getD_getElem?]
              rw [Array.getElem?_eq_none (by omega)]
              rfl
            rw [this] at h3
            simp at h3

/-- what stands before an operation of which all edges lie in a shut set lies there -/
theorem before_shut {ops : Array Oper} {L : Nat → Prop} (hL : Shut ops L) {i j : Nat} {o : Oper} (ho : ops[i]? = some o) (hj : ((Region.before ops).getD i 0).testBit j = true)
    (he : ∀ e ∈ o.after, Region.binds .any e = true → L e.on) : L j := by
  refine before_aux ops hL ops.toList [] #[] (by simp) rfl (fun i o hi => by simp at hi) i o ho j ?_ he
  rw [Array.foldl_toList]
  exact hj
end Go.Ex
