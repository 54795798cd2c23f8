import Derived.Test.YtfnpmhhlhlbclaaDoorDtU
namespace Go.Ex
open Go.Proofs
set_option maxRecDepth 100000
instance : Inhabited Fi := ⟨⟨0, default, ⟨#[]⟩, true, []⟩⟩
/-! ### rows of findings -/
def fiRow (l : List D) : Fi := match fiOf (.agg (l.map .d)) with
  | some f => f
  | none => default
def okRow (l : List D) : Bool := okFi (.agg (l.map .d))
def lstD (nl : Bool) (xs : List Fi) : D := .rof nl 6 xs.length fun k => (xs.getD k default).ds
def lstT (nl : Bool) (xs : List Fi) : T := .one (.d (lstD nl xs))

section
variable {H : Array Obj} {Z : Nat → Prop}
/-- rows that are told otherwise -/
theorem rof_map {nl : Bool} {sz n : Nat} {get get' : Nat → List D} {v : Value} (h : RepD H Z (.rof nl sz n get) v) (hl : ∀ i, i < n → (get' i).length = sz)
    (hm : ∀ i, i < n → ∀ (j : Nat) (d' : D), (get' i)[j]? = some d' → ∃ d, (get i)[j]? = some d ∧ ∀ v, RepD H Z d v → RepD H Z d' v) : RepD H Z (.rof nl sz n get') v := by
  cases h with
  | rofn => exact .rofn _ _
  | rofz _ _ a cap => exact .rofz _ _ a cap
  | rof _ _ _ b off cap g hcap hsz hb hc hr =>
    refine .rof sz n get' b off cap g hcap hl hb (fun i j d' hi hj => ?_) (fun i j d' hi hj => ?_)
    · obtain ⟨d, h1, _⟩ := hm i hi j d' hj
      exact hc i j d hi h1
    · obtain ⟨d, h1, h2⟩ := hm i hi j d' hj
      exact h2 _ (hr i j d hi h1)
theorem ro_map {nl : Bool} {sz : Nat} {es es' : List (List D)} {v : Value} (h : RepD H Z (.ro nl sz es) v) (hn : es'.length = es.length) (hl : ∀ (i : Nat) (l : List D), es'[i]? = some l → l.length = sz)
    (hm : ∀ (i : Nat) (l l' : List D), es[i]? = some l → es'[i]? = some l' → ∀ (j : Nat) (d' : D), l'[j]? = some d' → ∃ d, l[j]? = some d ∧ ∀ v, RepD H Z d v → RepD H Z d' v) : RepD H Z (.ro nl sz es') v := by
  cases h with
  | nil =>
    obtain rfl : es' = [] := List.eq_nil_of_length_eq_zero (by simpa using hn)
    exact .nil _
  | roz _ a cap =>
    obtain rfl : es' = [] := List.eq_nil_of_length_eq_zero (by simpa using hn)
    exact .roz _ a cap
  | ro _ _ b off cap g hcap hsz hb hc hr =>
    have look : ∀ {i : Nat} {l' : List D}, es'[i]? = some l' → ∃ l, es[i]? = some l := fun {i l'} hi => ⟨_, List.getElem?_eq_getElem (by have := (List.getElem?_eq_some_iff.1 hi).1; omega)⟩
    rw [← hn]
    refine .ro sz es' b off cap g (by omega) hl (fun hne => hb fun e => hne (List.eq_nil_of_length_eq_zero (by rw [hn, e]; rfl))) (fun i l' j d' hi hj => ?_) (fun i l' j d' hi hj => ?_)
    · obtain ⟨l, hl'⟩ := look hi
      obtain ⟨d, h1, _⟩ := hm i l l' hl' hi j d' hj
      exact hc i l j d hl' h1
    · obtain ⟨l, hl'⟩ := look hi
      obtain ⟨d, h1, h2⟩ := hm i l l' hl' hi j d' hj
      exact h2 _ (hr i l j d hl' h1)
theorem rofD_eq {n : Nat} {get : Nat → List D} (h : okPls n get = true) {nl : Bool} {v : Value} (hr : RepD H Z (.rof nl 3 n get) v) : RepD H Z (pathD nl (plsOf n get)) v := by
  simp only [okPls, Bool.and_eq_true, List.all_eq_true] at h
  have hl : (plsOf n get).length = n := by simp [plsOf]
  have hg : ∀ i, i < n → ((plsOf n get).getD i default).d = get i := fun i hi => by
    have := isPl_eq (h.2 i (by simpa using hi))
    simp [plsOf, hi, ← this]
  unfold pathD
  generalize hq : (fun k => ((plsOf n get).getD k default).d) = q
  rw [hl]
  exact rof_congr hr fun i hi => by rw [← hq]; exact hg i hi
theorem row_conv {l : List D} (h : okRow l = true) : (fiRow l).ds.length = 6 ∧ ∀ (j : Nat) (d' : D), (fiRow l).ds[j]? = some d' → ∃ d, l[j]? = some d ∧ ∀ v, RepD H Z d v → RepD H Z d' v := by
  unfold okRow at h
  have hf : ∃ k c m n s nl len get, l = [.v (.int .i64 k), .v (.string c), .v (.string m), .v (.int .i64 n), .v (.string s), .rof nl 3 len get] ∧ okPls len get = true := by
    unfold okFi at h
    split at h
    · rename_i k c m n s nl len get heq
      simp only [T.agg.injEq] at heq
      match l, heq with
      | [a, b, c', d, e, g], heq =>
      simp at heq
      obtain ⟨rfl, rfl, rfl, rfl, rfl, rfl⟩ := heq
      exact ⟨k, c, m, n, s, nl, len, get, rfl, h⟩
    · simp at h
  obtain ⟨k, c, m, n, s, nl, len, get, rfl, ho⟩ := hf
  refine ⟨rfl, fun j d' hj => ?_⟩
  have hlt := (List.getElem?_eq_some_iff.1 hj).1
  match j, hlt with
  | 0, _ => cases hj; exact ⟨_, rfl, fun _ h => h⟩
  | 1, _ => cases hj; exact ⟨_, rfl, fun _ h => h⟩
  | 2, _ => cases hj; exact ⟨_, rfl, fun _ h => h⟩
  | 3, _ => cases hj; exact ⟨_, rfl, fun _ h => h⟩
  | 4, _ => cases hj; exact ⟨_, rfl, fun _ h => h⟩
  | 5, _ => cases hj; exact ⟨_, rfl, fun _ h => rofD_eq ho h⟩
theorem row_len {l : List D} (h : okRow l = true) : (fiRow l).path.length ≤ 4200 := by
  unfold okRow at h
  unfold fiRow
  cases hf : fiOf (.agg (l.map .d)) with
  | none => simp; decide
  | some f => exact fiOf_len hf h
/-- rows that are findings -/
theorem rows_rof {es : List (List D)} {nl : Bool} {v : Value} (h : RepD H Z (.ro nl 6 es) v) (ho : es.all okRow = true) : RepD H Z (lstD nl (es.map fiRow)) v := by
  rw [List.all_eq_true] at ho
  have h1 : RepD H Z (.rof nl 6 es.length fun k => es.getD k []) v := by
    cases nl with
    | false => exact ro_rof h
    | true =>
      cases h
      exact .rofn _ _
  unfold lstD
  have hn : (es.map fiRow).length = es.length := by simp
  rw [hn]
  have look : ∀ i, i < es.length → ((es.map fiRow).getD i default) = fiRow (es.getD i []) := fun i hi => by simp [List.getD, hi]
  have hok : ∀ i, i < es.length → okRow (es.getD i []) = true := fun i hi => ho _ (by simp [List.getD, hi])
  refine rof_map h1 (fun i hi => ?_) (fun i hi j d' hj => ?_)
  · rw [look i hi]; exact (row_conv (H := H) (Z := Z) (hok i hi)).1
  · rw [look i hi] at hj
    exact (row_conv (hok i hi)).2 j d' hj
end

/-! ### Same -/
def sameL : List Fi → List Fi → Bool
  | [], [] => true
  | x :: xs, y :: ys => cmpF x y == 0 && sameL xs ys
  | _, _ => false
def keep15 (_ r : Nat) : Option Keep := match r with
  | 4 => some { tm := [0, 1, 5], ids := [] }
  | _ => none
def st15 (b b' : Bool) (xs ys : List Fi) (i : Int) : St := { tm := [lstT b xs, lstT b' ys, .any, .any, .any, intT .i64 i] ++ List.replicate 21 .any, h := [] }
theorem start15 {α : Type} (fuel : Nat) (b b' : Bool) (xs ys : List Fi) (κ : T → Option α) : ((asks @sumT).next E1 keep15 fuel).pure 15 [lstT b xs, lstT b' ys] κ =
    br ((xs.length : Int) != (ys.length : Int)) (κ (boolT false)) (loopAt E1 (asks @sumT) (keep15 15) fuel 15 (pureK κ) fuel (st15 b b' xs ys 0)) := by kernel_rfl
theorem step15 {α : Type} (fuel m : Nat) (b b' : Bool) (xs ys : List Fi) (i : Int) (κ : T → Option α) : loopAt E1 (asks @sumT) (keep15 15) fuel 15 (pureK κ) (m + 1) (st15 b b' xs ys i) =
    br (decide (i < (xs.length : Int))) (br (decide (0 ≤ i)) (br (decide (i < (xs.length : Int))) (br (decide (0 ≤ i)) (br (decide (i < (ys.length : Int)))
      (br (okFi (xs.getD i.toNat default).t && okFi (ys.getD i.toNat default).t) (br (cmpF (xs.getD i.toNat default).re (ys.getD i.toNat default).re != 0) (κ (boolT false))
        (loopAt E1 (asks @sumT) (keep15 15) fuel 15 (pureK κ) m (st15 b b' xs ys (IntKind.i64.wrap (i + 1))))) none) none) none) none) none) (κ (boolT true)) := by kernel_rfl
end Go.Ex
