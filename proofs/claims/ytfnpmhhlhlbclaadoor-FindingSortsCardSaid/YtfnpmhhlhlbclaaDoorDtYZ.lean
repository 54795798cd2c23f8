import Derived.Test.YtfnpmhhlhlbclaaDoorDtX
namespace Go.Ex
open Go.Proofs
set_option maxRecDepth 100000
def sizeR {α : Type} (a b c : Fi) (K : Bool → Option α) : Option α :=
  br (decide (IntKind.i64.wrap (3 + (a.path.length : Int)) ≤ 2000)) (br (decide (IntKind.i64.wrap (IntKind.i64.wrap (3 + (a.path.length : Int)) + (b.path.length : Int)) ≤ 2000))
    (K (decide (IntKind.i64.wrap (IntKind.i64.wrap (IntKind.i64.wrap (3 + (a.path.length : Int)) + (b.path.length : Int)) + (c.path.length : Int)) ≤ 2000)))
    (K (decide (IntKind.i64.wrap (IntKind.i64.wrap (3 + (a.path.length : Int)) + (b.path.length : Int)) ≤ 2000)))) (K (decide (IntKind.i64.wrap (3 + (a.path.length : Int)) ≤ 2000)))
def dsOf (l : List Fi) : List (List D) := l.map Fi.ds
def go5 {α : Type} (a b c : Fi) (κ : T → Option α) : Option α :=
  br (okRow a.ds && (okRow b.ds && okRow c.ds)) (br (okRow c.ds && (okRow b.ds && okRow a.ds))
    (br (Nat.ble (dsOf (sort3 a.re b.re c.re)).length 1000 && ((dsOf (sort3 a.re b.re c.re)).all okRow && (dsOf (sort3 c.re b.re a.re)).all okRow))
      (br (sameL ((dsOf (sort3 a.re b.re c.re)).map fiRow) ((dsOf (sort3 c.re b.re a.re)).map fiRow))
        (br (decide (((dsOf (sort3 a.re b.re c.re)).length : Int) ≥ 1)) (κ (boolT true)) (κ (boolT false))) (κ (boolT false))) none) none) none
def okAB (a b : Fi) : Bool := okFi a.t && okFi b.t
theorem t5_3 {α : Type} (a b c : Fi) (κ : T → Option α) : KQ.pure 5 [rowsT [a, b, c]] κ = sizeR a b c fun s => br (!s) (κ (boolT true))
    (br (okAB a b) (br (okAB b a) (br (cmpF a.re b.re != IntKind.i64.wrap (0 - cmpF b.re a.re)) (κ (boolT false))
      (br (okAB a a) (br (cmpF a.re a.re != 0) (κ (boolT false))
        (br (okAB a b) (br (decide (cmpF a.re b.re ≤ 0)) (br (okAB b c) (br (decide (cmpF b.re c.re ≤ 0)) (br (okAB a c) (br (decide (cmpF a.re c.re > 0)) (κ (boolT false)) (go5 a b c κ)) none) (go5 a b c κ)) none) (go5 a b c κ)) none)) none)) none) none) := by kernel_rfl

theorem sort3_len (a b c : Fi) : 1 ≤ (sort3 a b c).length ∧ (sort3 a b c).length ≤ 3 := by
  have hc : ∀ x y z, 1 ≤ (comp3 x y z).length ∧ (comp3 x y z).length ≤ 3 := fun x y z => by
    unfold comp3
    cases cmpF y x == 0 <;> cases cmpF z y == 0 <;> simp
  have hi : ∀ x y z, 1 ≤ (ins3 x y z).length ∧ (ins3 x y z).length ≤ 3 := fun x y z => by
    unfold ins3
    cases decide (cmpF z y < 0) <;> cases decide (cmpF z x < 0) <;> exact hc _ _ _
  unfold sort3
  cases decide (cmpF b a < 0) <;> exact hi _ _ _
theorem sort3_mem (a b c : Fi) : ∀ x ∈ sort3 a b c, x = a ∨ x = b ∨ x = c := by
  have hc : ∀ x y z w, w ∈ comp3 x y z → w = x ∨ w = y ∨ w = z := fun x y z w => by
    unfold comp3
    cases cmpF y x == 0 <;> cases cmpF z y == 0 <;> intro h <;> simp only [List.mem_cons, List.not_mem_nil, or_false] at h
    · exact h
    · rcases h with h | h <;> simp [h]
    · rcases h with h | h <;> simp [h]
    · simp [h]
  have hi : ∀ x y z w, w ∈ ins3 x y z → w = x ∨ w = y ∨ w = z := fun x y z w => by
    unfold ins3
    cases decide (cmpF z y < 0) <;> cases decide (cmpF z x < 0) <;> intro h
    · exact hc _ _ _ _ h
    · exact hc _ _ _ _ h
    · rcases hc _ _ _ _ h with h | h | h <;> simp [h]
    · rcases hc _ _ _ _ h with h | h | h <;> simp [h]
  intro x
  unfold sort3
  cases decide (cmpF b a < 0) <;> intro h
  · exact hi _ _ _ _ h
  · rcases hi _ _ _ _ h with h | h | h <;> simp [h]
theorem rows_back {l : List Fi} : (dsOf l).map fiRow = l := by
  unfold dsOf
  rw [List.map_map]
  have : (fiRow ∘ Fi.ds) = id := funext fun f => by
    change Fi.re f = f
    exact f.re_eq
  rw [this, List.map_id]
theorem rows_ok {l : List Fi} (h : ∀ x ∈ l, x.path.length ≤ 4200) : (dsOf l).all okRow = true := by
  unfold dsOf
  rw [List.all_eq_true]
  intro r hr
  obtain ⟨f, hf, rfl⟩ := List.mem_map.1 hr
  exact okFi_t (h f hf)
/-- the same in the opposite order -/
theorem sort3_same (a b c : Fi) : sameL (sort3 a b c) (sort3 c b a) = true := by
  have o := ord_finding
  have rab := o.anti a b
  have rbc := o.anti b c
  have rac := o.anti a c
  have za := o.refl a
  have zb := o.refl b
  have zc := o.refl c
  have t1 := o.trans a b c
  have t2 := o.trans a c b
  have t3 := o.trans b a c
  have t4 := o.trans b c a
  have t5 := o.trans c a b
  have t6 := o.trans c b a
  rw [rac] at t5
  rw [rbc] at t2 t5
  rw [rab] at t3 t4
  rw [rac] at t4
  rw [rbc, rab, rac] at t6
  rcases o.range a b with e1 | e1 | e1 <;> rcases o.range b c with e2 | e2 | e2 <;> rcases o.range a c with e3 | e3 | e3 <;> rw [e1] at rab <;> rw [e2] at rbc <;> rw [e3] at rac <;>
    first
      | (exfalso; omega)
      | (simp [sort3, ins3, comp3, sameL, rab, rac, rbc, e1, e2, e3, za, zb, zc])
end Go.Ex
namespace Go.Ex
open Go.Proofs
set_option maxRecDepth 100000
theorem go5_eq {α : Type} {a b c : Fi} (ha : a.path.length ≤ 4200) (hb : b.path.length ≤ 4200) (hc : c.path.length ≤ 4200) (κ : T → Option α) : go5 a b c κ = κ (boolT true) := by
  have oa : okRow a.ds = true := okFi_t ha
  have ob : okRow b.ds = true := okFi_t hb
  have oc : okRow c.ds = true := okFi_t hc
  have m1 : ∀ x ∈ sort3 a b c, x.path.length ≤ 4200 := fun x hx => by
    rcases sort3_mem a b c x hx with h | h | h <;> rw [h] <;> assumption
  have m2 : ∀ x ∈ sort3 c b a, x.path.length ≤ 4200 := fun x hx => by
    rcases sort3_mem c b a x hx with h | h | h <;> rw [h] <;> assumption
  have hl := sort3_len a b c
  have n1 : (dsOf (sort3 a b c)).length = (sort3 a b c).length := by simp [dsOf]
  have c1 : Nat.ble (dsOf (sort3 a b c)).length 1000 = true := Nat.ble_eq_true_of_le (by omega)
  have c2 : decide (((dsOf (sort3 a b c)).length : Int) ≥ 1) = true := by simp; omega
  unfold go5
  rw [oa, ob, oc, Fi.re_eq, Fi.re_eq, Fi.re_eq, c1, rows_ok m1, rows_ok m2, rows_back, rows_back, sort3_same, c2]
  rfl
theorem s5_3 {a b c : Fi} (ha : a.path.length < 1152921504606846976) (hb : b.path.length < 1152921504606846976) (hc : c.path.length < 1152921504606846976) : Says E1 5 [rowsT [a, b, c]] (boolT true) := by
  refine toldQ.rund hasQ nokeep 5000 1 ((t5_3 a b c some).trans ?_)
  unfold sizeR
  rw [wrap_id (n := 3 + (a.path.length : Int)) (by omega) (by omega), wrap_id (n := 3 + (a.path.length : Int) + (b.path.length : Int)) (by omega) (by omega),
    wrap_id (n := 3 + (a.path.length : Int) + (b.path.length : Int) + (c.path.length : Int)) (by omega) (by omega)]
  by_cases h : 3 + (a.path.length : Int) + (b.path.length : Int) + (c.path.length : Int) ≤ 2000
  · have c1 : decide (3 + (a.path.length : Int) ≤ 2000) = true := by simp; omega
    have c2 : decide (3 + (a.path.length : Int) + (b.path.length : Int) ≤ 2000) = true := by simp; omega
    have c3 : decide (3 + (a.path.length : Int) + (b.path.length : Int) + (c.path.length : Int) ≤ 2000) = true := by simpa using h
    have ha' : a.path.length ≤ 4200 := by omega
    have hb' : b.path.length ≤ 4200 := by omega
    have hc' : c.path.length ≤ 4200 := by omega
    have ok : ∀ {x y : Fi}, x.path.length ≤ 4200 → y.path.length ≤ 4200 → okAB x y = true := fun h1 h2 => by
      unfold okAB
      rw [okFi_t h1, okFi_t h2]
      rfl
    have o := ord_finding
    have e1 : (cmpF a b != IntKind.i64.wrap (0 - cmpF b a)) = false := by
      have h1 := o.anti a b
      have h2 := o.range a b
      rw [wrap_id (by omega) (by omega)]
      simp
      omega
    have e2 : (cmpF a a != 0) = false := by rw [o.refl a]; rfl
    rw [c1, c2, c3, Fi.re_eq, Fi.re_eq, Fi.re_eq, ok ha' hb', ok hb' ha', ok ha' ha', ok hb' hc', ok ha' hc', e1, e2, go5_eq ha' hb' hc']
    by_cases h1 : cmpF a b ≤ 0
    · by_cases h2 : cmpF b c ≤ 0
      · have h3 := o.trans a b c h1 h2
        have d1 : decide (cmpF a b ≤ 0) = true := by simpa using h1
        have d2 : decide (cmpF b c ≤ 0) = true := by simpa using h2
        have d3 : decide (cmpF a c > 0) = false := by simp; omega
        rw [d1, d2, d3]
        rfl
      · have d1 : decide (cmpF a b ≤ 0) = true := by simpa using h1
        have d2 : decide (cmpF b c ≤ 0) = false := by simpa using h2
        rw [d1, d2]
        rfl
    · have d1 : decide (cmpF a b ≤ 0) = false := by simpa using h1
      rw [d1]
      rfl
  · have c3 : decide (3 + (a.path.length : Int) + (b.path.length : Int) + (c.path.length : Int) ≤ 2000) = false := by simpa using h
    rw [c3]
    by_cases h1 : 3 + (a.path.length : Int) ≤ 2000
    · have c1 : decide (3 + (a.path.length : Int) ≤ 2000) = true := by simpa using h1
      rw [c1]
      by_cases h2 : 3 + (a.path.length : Int) + (b.path.length : Int) ≤ 2000
      · have c2 : decide (3 + (a.path.length : Int) + (b.path.length : Int) ≤ 2000) = true := by simpa using h2
        rw [c2]
        rfl
      · have c2 : decide (3 + (a.path.length : Int) + (b.path.length : Int) ≤ 2000) = false := by simpa using h2
        rw [c2]
        rfl
    · have c1 : decide (3 + (a.path.length : Int) ≤ 2000) = false := by simpa using h1
      rw [c1]
      rfl
def bigP (xs : List Fi) : Prop := ∀ x ∈ xs, x.path.length < 1152921504606846976
theorem s5 (nl : Bool) (xs : List Fi) (h : bigP xs) : Says E1 5 [lstT nl xs] (boolT true) := by
  match xs, h with
  | [], _ => exact toldQ.rund hasQ nokeep 5000 1 (t5_0 nl _ some)
  | [_], _ => exact toldQ.rund hasQ nokeep 5000 1 (t5_1 nl _ some)
  | [_, _], _ => exact toldQ.rund hasQ nokeep 5000 1 (t5_2 nl _ some)
  | [a, b, c], h =>
    refine (s5_3 (h a (by simp)) (h b (by simp)) (h c (by simp))).args fun X vals hr => RepTs.map1 (fun v hv => ?_) hr
    cases hv with | one _ _ hv => cases hv with | d _ _ hv =>
    have h1 := hv.rof_ro
    cases nl with
    | true =>
      unfold lstD at hv
      generalize hn : [a, b, c].length = n at hv
      cases hv
      simp at hn
    | false => exact .one _ _ (.d _ _ h1)
  | _ :: _ :: _ :: _ :: r, _ => exact toldQ.rund hasQ nokeep 5000 1 (t5_4 nl r.length _ some)
end Go.Ex
