import Derived.Test.YtfnpmhhlhlbclaaDoorDtX
namespace Go.Ex
open Go.Proofs
set_option maxRecDepth 100000
def sizeR {α : Type} (a b c : Fi) (K : Bool → Option α) : Option α :=
  br (decide (IntKind.i64.wrap (3 + (a.path.length : Int)) ≤ 2000)) (br (decide (IntKind.i64.wrap (IntKind.i64.wrap (3 + (a.path.length : Int)) + (b.path.length : Int)) ≤ 2000))
    (K (decide (IntKind.i64.wrap (IntKind.i64.wrap (IntKind.i64.wrap (3 + (a.path.length : Int)) + (b.path.length : Int)) + (c.path.length : Int)) ≤ 2000)))
    (K (decide (IntKind.i64.wrap (IntKind.i64.wrap (3 + (a.path.length : Int)) + (b.path.length : Int)) ≤ 2000)))) (K (decide (IntKind.i64.wrap (3 + (a.path.length : Int)) ≤ 2000)))
def dsOf (l : List Fi) : List (List D) := l.map Fi.ds
def go5 {α : Type} (a b c : Fi) (κ : T → Option α) : Option α :=
  br (okRow a.ds && (okRow b.ds && okRow c.ds)) (br (okRow c.ds && (okRow b.ds && okRow a.ds))
    (br (Nat.ble (dsOf (sort3 a.re b.re c.re)).length 1000 && ((dsOf (sort3 a.re b.re c.re)).all okRow && (dsOf (sort3 c.re b.re a.re)).all okRow))
      (br (sameL ((dsOf (sort3 a.re b.re c.re)).map fiRow) ((dsOf (sort3 c.re b.re a.re)).map fiRow))
        (br (decide (((dsOf (sort3 a.re b.re c.re)).length : Int) ≥ 1)) (κ (boolT true)) (κ (boolT false))) (κ (boolT false))) none) none) none
def okAB (a b : Fi) : Bool := okFi a.t && okFi b.t
theorem t5_3 {α : Type} (a b c : Fi) (κ : T → Option α) : KQ.pure 5 [rowsT [a, b, c]] κ = sizeR a b c fun s => br (!s) (κ (boolT true))
    (br (okAB a b) (br (okAB b a) (br (cmpF a.re b.re != IntKind.i64.wrap (0 - cmpF b.re a.re)) (κ (boolT false))
      (br (okAB a a) (br (cmpF a.re a.re != 0) (κ (boolT false))
        (br (okAB a b) (br (decide (cmpF a.re b.re ≤ 0)) (br (okAB b c) (br (decide (cmpF b.re c.re ≤ 0)) (br (okAB a c) (br (decide (cmpF a.re c.re > 0)) (κ (boolT false)) (go5 a b c κ)) none) (go5 a b c κ)) none) (go5 a b c κ)) none)) none)) none) none) := by kernel_rfl

theorem sort3_len (a b c : Fi) : 1 ≤ (sort3 a b c).length ∧ (sort3 a b c).length ≤ 3 := by
  have hc : ∀ x y z, 1 ≤ (comp3 x y z).length ∧ (comp3 x y z).length ≤ 3 := fun x y z => by
    unfold comp3
    cases cmpF y x == 0 <;> cases cmpF z y == 0 <;> simp
  have hi : ∀ x y z, 1 ≤ (ins3 x y z).length ∧ (ins3 x y z).length ≤ 3 := fun x y z => by
    unfold ins3
    cases decide (cmpF z y < 0) <;> cases decide (cmpF z x < 0) <;> exact hc _ _ _
  unfold sort3
  cases decide (cmpF b a < 0) <;> exact hi _ _ _
theorem sort3_mem (a b c : Fi) : ∀ x ∈ sort3 a b c, x = a ∨ x = b ∨ x = c := by
  have hc : ∀ x y z w, w ∈ comp3 x y z → w = x ∨ w = y ∨ w = z := fun x y z w => by
    unfold comp3
    cases cmpF y x == 0 <;> cases cmpF z y == 0 <;> intro h <;> simp only [List.mem_cons, List.not_mem_nil, or_false] at h
    · exact h
    · rcases h with h | h <;> simp [h]
    · rcases h with h | h <;> simp [h]
    · simp [h]
  have hi : ∀ x y z w, w ∈ ins3 x y z → w = x ∨ w = y ∨ w = z := fun x y z w => by
    unfold ins3
    cases decide (cmpF z y < 0) <;> cases decide (cmpF z x < 0) <;> intro h
    · exact hc _ _ _ _ h
    · exact hc _ _ _ _ h
    · rcases hc _ _ _ _ h with h | h | h <;> simp [h]
    · rcases hc _ _ _ _ h with h | h | h <;> simp [h]
  intro x
  unfold sort3
  cases decide (cmpF b a < 0) <;> intro h
  · exact hi _ _ _ _ h
  · rcases hi _ _ _ _ h with h | h | h <;> simp [h]
theorem rows_back {l : List Fi} : (dsOf l).map fiRow = l := by
  unfold dsOf
  rw [List.map_map]
  have : (fiRow ∘ Fi.ds) = id := funext fun f => by
    change Fi.re f = f
    exact f.re_eq
  rw [this, List.map_id]
theorem rows_ok {l : List Fi} (h : ∀ x ∈ l, x.path.length ≤ 4200) : (dsOf l).all okRow = true := by
  unfold dsOf
  rw [List.all_eq_true]
  intro r hr
  obtain ⟨f, hf, rfl⟩ := List.mem_map.1 hr
  exact okFi_t (h f hf)
/-- the same in the opposite order -/
theorem sort3_same (a b c : Fi) : sameL (sort3 a b c) (sort3 c b a) = true := by
  have o := ord_finding
  have rab := o.anti a b
  have rbc := o.anti b c
  have rac := o.anti a c
  have za := o.refl a
  have zb := o.refl b
  have zc := o.refl c
  have t1 := o.trans a b c
  have t2 := o.trans a c b
  have t3 := o.trans b a c
  have t4 := o.trans b c a
  have t5 := o.trans c a b
  have t6 := o.trans c b a
  rw [rac] at t5
  rw [rbc] at t2 t5
  rw [rab] at t3 t4
  rw [rac] at t4
  rw [rbc, rab, rac] at t6
  rcases o.range a b with e1 | e1 | e1 <;> rcases o.range b c with e2 | e2 | e2 <;> rcases o.range a c with e3 | e3 | e3 <;> rw [e1] at rab <;> rw [e2] at rbc <;> rw [e3] at rac <;>
    first
      | (exfalso; omega)
      | (simp [sort3, ins3, comp3, sameL, rab, rac, rbc, e1, e2, e3, za, zb, zc])
end Go.Ex
