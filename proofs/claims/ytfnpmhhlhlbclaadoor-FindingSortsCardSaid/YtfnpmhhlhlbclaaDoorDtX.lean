import Derived.Test.YtfnpmhhlhlbclaaDoorDtV
namespace Go.Ex
open Go.Proofs
set_option maxRecDepth 100000
def smallP (xs : List Fi) : Prop := ∀ x ∈ xs, x.path.length ≤ 4200
theorem smallP.at' {xs : List Fi} (h : smallP xs) {k : Nat} (hk : k < xs.length) : xs[k].path.length ≤ 4200 := h _ (List.getElem_mem hk)
theorem rounds15 {α : Type} (fuel : Nat) (b b' : Bool) (xs ys : List Fi) (κ : T → Option α) (hs : xs.length < 1073741824) (hx : smallP xs) (hy : smallP ys) (hl : xs.length = ys.length) : ∀ (m k : Nat), k ≤ xs.length → xs.length < k + m →
    loopAt E1 (asks @sumT) (keep15 15) fuel 15 (pureK κ) m (st15 b b' xs ys k) = κ (boolT (sameL (xs.drop k) (ys.drop k)))
  | 0, k, h1, h3 => by omega
  | m + 1, k, h1, h3 => by
    rw [step15]
    by_cases hk : k < xs.length
    · have hq : k < ys.length := by omega
      have c1 : decide ((k : Int) < (xs.length : Int)) = true := by simp; omega
      have c2 : decide (0 ≤ (k : Int)) = true := by simp
      have c3 : decide ((k : Int) < (ys.length : Int)) = true := by simp; omega
      have e1 : xs.getD (k : Int).toNat default = xs[k] := by simp [List.getD, hk]
      have e2 : ys.getD (k : Int).toNat default = ys[k] := by simp [List.getD, hq]
      have c4 : (okFi xs[k].t && okFi ys[k].t) = true := by rw [okFi_t (hx.at' hk), okFi_t (hy.at' hq)]; rfl
      rw [List.drop_eq_getElem_cons hk, List.drop_eq_getElem_cons hq, wrap_id (by omega) (by omega)]
      have ih := rounds15 fuel b b' xs ys κ hs hx hy hl m (k + 1) (by omega) (by omega)
      have e : (k : Int) + 1 = ((k + 1 : Nat) : Int) := by omega
      rw [e, ih, e1, e2, c4, Fi.re_eq, Fi.re_eq]
      simp only [c1, c2, c3, br, sameL]
      by_cases hc : cmpF xs[k] ys[k] = 0
      · simp [hc]
      · rw [bne0 hc, beq0 hc]
        simp
    · have c1 : decide ((k : Int) < (xs.length : Int)) = false := by simp; omega
      have e : xs.drop k = [] := List.drop_eq_nil_of_le (by omega)
      have e' : ys.drop k = [] := List.drop_eq_nil_of_le (by omega)
      simp only [c1, br, e, e', sameL]
theorem sameL_len : ∀ {xs ys : List Fi}, xs.length ≠ ys.length → sameL xs ys = false
  | [], [], h => absurd rfl h
  | [], _ :: _, _ => rfl
  | _ :: _, [], _ => rfl
  | x :: xs, y :: ys, h => by
    simp only [sameL]
    rw [sameL_len (xs := xs) (ys := ys) (by simpa using h)]
    simp
theorem s15 (b b' : Bool) (xs ys : List Fi) (hs : xs.length < 1073741824) (hx : smallP xs) (hy : smallP ys) : Says E1 15 [lstT b xs, lstT b' ys] (boolT (sameL xs ys)) := by
  refine toldT.run keep15 (xs.length + 1) ((start15 (xs.length + 1) b b' xs ys some).trans ?_)
  by_cases h : xs.length = ys.length
  · have c : ((xs.length : Int) != (ys.length : Int)) = false := by simp; omega
    have hr := rounds15 (xs.length + 1) b b' xs ys some hs hx hy h (xs.length + 1) 0 (by omega) (by omega)
    have e0 : ((0 : Nat) : Int) = 0 := rfl
    rw [e0, List.drop_zero, List.drop_zero] at hr
    rw [c, hr]
    rfl
  · have c : ((xs.length : Int) != (ys.length : Int)) = true := by simp; omega
    rw [c, sameL_len h]
    rfl

/-! ### Sort of three, by the order -/
def comp3 (x y z : Fi) : List Fi := match cmpF y x == 0, cmpF z y == 0 with
  | true, false => [x, z]
  | true, true => [x]
  | false, true => [x, y]
  | false, false => [x, y, z]
def ins3 (p q c : Fi) : List Fi := match decide (cmpF c q < 0), decide (cmpF c p < 0) with
  | true, true => comp3 c p q
  | true, false => comp3 p c q
  | false, _ => comp3 p q c
def sort3 (a b c : Fi) : List Fi := match decide (cmpF b a < 0) with
  | true => ins3 b a c
  | false => ins3 a b c
theorem ltR_eq {α : Type} {x y : Fi} (hx : okFi x.t = true) (hy : okFi y.t = true) (A B : Option α) : ltR x y A B = br (decide (cmpF x y < 0)) A B := by
  unfold ltR
  rw [hx, hy, Fi.re_eq, Fi.re_eq]
  rfl
theorem eqR_eq {α : Type} {x y : Fi} (hx : okFi x.t = true) (hy : okFi y.t = true) (A B : Option α) : eqR x y A B = br (cmpF x y == 0) A B := by
  unfold eqR
  rw [hx, hy, Fi.re_eq, Fi.re_eq]
  rfl
theorem neR_eq {α : Type} {x y : Fi} (hx : okFi x.t = true) (hy : okFi y.t = true) (A B : Option α) : neR x y A B = br (!(cmpF x y == 0)) A B := by
  unfold neR
  rw [hx, hy, Fi.re_eq, Fi.re_eq]
  rfl
theorem finR_eq {α : Type} (κ : T → Option α) : ∀ (l acc : List Fi), (∀ x ∈ l, okFi x.t = true) → finR κ acc l = κ (rowsT (acc ++ l))
  | [], acc, _ => by simp [finR]
  | x :: r, acc, h => by
    unfold finR
    rw [h x (by simp), Fi.re_eq]
    simp only [br]
    rw [finR_eq κ r (acc ++ [x]) (fun y hy => h y (by simp [hy]))]
    simp
theorem compR_eq {α : Type} (κ : T → Option α) {x y z : Fi} (hx : okFi x.t = true) (hy : okFi y.t = true) (hz : okFi z.t = true) : compR κ x y z = κ (rowsT (comp3 x y z)) := by
  unfold compR
  rw [eqR_eq hy hx, neR_eq hz hy, eqR_eq hz hy, finR_eq, finR_eq, finR_eq, finR_eq]
  · unfold comp3
    cases cmpF y x == 0 <;> cases cmpF z y == 0 <;> simp [br]
  all_goals simp [hx, hy, hz]
theorem sort3R_eq {α : Type} (κ : T → Option α) {a b c : Fi} (ha : okFi a.t = true) (hb : okFi b.t = true) (hc : okFi c.t = true) : sort3R κ a b c = κ (rowsT (sort3 a b c)) := by
  have ins : ∀ {p q : Fi}, okFi p.t = true → okFi q.t = true → ins3R κ p q c = κ (rowsT (ins3 p q c)) := fun {p q} hp hq => by
    unfold ins3R
    rw [ltR_eq hc hq, ltR_eq hc hp, compR_eq κ hc hp hq, compR_eq κ hp hc hq, compR_eq κ hp hq hc]
    unfold ins3
    cases decide (cmpF c q < 0) <;> cases decide (cmpF c p < 0) <;> simp [br]
  unfold sort3R
  rw [ltR_eq hb ha, ins hb ha, ins ha hb]
  unfold sort3
  cases decide (cmpF b a < 0) <;> simp [br]
theorem s16_3 {a b c : Fi} (ha : okFi a.t = true) (hb : okFi b.t = true) (hc : okFi c.t = true) : Says E1 16 [rowsT [a, b, c]] (rowsT (sort3 a b c)) :=
  toldS.rund hasS nokeep 5000 6 ((t16 a b c some).trans (sort3R_eq some ha hb hc))

/-! ### FindingOrder -/
def sumO {α : Type} (g : FuncId) (args : List T) (κ : T → Option α) : Option α := match g, args with
  | 15, [.one (.d (.ro false 6 es)), .one (.d (.ro false 6 es'))] => br (Nat.ble es.length 1000 && (es.all okRow && es'.all okRow)) (κ (boolT (sameL (es.map fiRow) (es'.map fiRow)))) none
  | 16, [.one (.d (.ro false 6 [ra, rb, rc]))] => br (okRow ra && (okRow rb && okRow rc)) (κ (rowsT (sort3 (fiRow ra) (fiRow rb) (fiRow rc)))) none
  | _, _ => none
theorem all_small {es : List (List D)} (h : es.all okRow = true) : smallP (es.map fiRow) := by
  rw [List.all_eq_true] at h
  intro x hx
  obtain ⟨l, hl, rfl⟩ := List.mem_map.1 hx
  exact row_len (h l hl)
theorem okRow_t {l : List D} (h : okRow l = true) : okFi (fiRow l).t = true := okFi_t (row_len h)
theorem toldO : Told E1 @sumO := by
  intro α g args κ x hx
  unfold sumO at hx
  split at hx
  · rename_i es es'
    cases hb : Nat.ble es.length 1000 && (es.all okRow && es'.all okRow) with
    | false => rw [hb] at hx; simp [br] at hx
    | true =>
      rw [hb] at hx
      refine ⟨_, hx, fun κ' => by simp only [sumO, hb, br], ?_⟩
      simp only [Bool.and_eq_true] at hb
      have hn := Nat.le_of_ble_eq_true hb.1
      refine (s15 false false (es.map fiRow) (es'.map fiRow) (by simp; omega) (all_small hb.2.1) (all_small hb.2.2)).args fun X vals hr => RepTs.map2 (fun v h => ?_) (fun v h => ?_) hr
      · cases h with | one _ _ h => cases h with | d _ _ h =>
        exact .one _ _ (.d _ _ (rows_rof h hb.2.1))
      · cases h with | one _ _ h => cases h with | d _ _ h =>
        exact .one _ _ (.d _ _ (rows_rof h hb.2.2))
  · rename_i ra rb rc
    cases hb : okRow ra && (okRow rb && okRow rc) with
    | false => rw [hb] at hx; simp [br] at hx
    | true =>
      rw [hb] at hx
      refine ⟨_, hx, fun κ' => by simp only [sumO, hb, br], ?_⟩
      simp only [Bool.and_eq_true] at hb
      refine (s16_3 (okRow_t hb.1) (okRow_t hb.2.1) (okRow_t hb.2.2)).args fun X vals hr => RepTs.map1 (fun v h => ?_) hr
      cases h with | one _ _ h => cases h with | d _ _ h =>
      refine .one _ _ (.d _ _ (ro_map h rfl (fun i l hl => ?_) (fun i l l' h1 h2 => ?_)))
      · match i, hl with
        | 0, hl => cases hl; rfl
        | 1, hl => cases hl; rfl
        | 2, hl => cases hl; rfl
      · match i, h1, h2 with
        | 0, h1, h2 => cases h1; cases h2; exact (row_conv hb.1).2
        | 1, h1, h2 => cases h1; cases h2; exact (row_conv hb.2.1).2
        | 2, h1, h2 => cases h1; cases h2; exact (row_conv hb.2.2).2
  · simp at hx
def has1516 (f : FuncId) : Bool := match f with
  | 15 => true
  | 16 => true
  | _ => false
def sumQ {α : Type} (f : FuncId) (args : List T) (κ : T → Option α) : Option α := orSum has1516 @sumO @sumT f args κ
theorem toldQ : Told E1 @sumQ := toldO.or toldT has1516
def hasQ (f : FuncId) : Bool := match f with
  | 7 => true
  | 8 => true
  | 15 => true
  | 16 => true
  | _ => false
noncomputable def KQ : Calls' := (deep E1 @sumQ hasQ nokeep 5000 1).next E1 nokeep 5000
theorem t5_0 {α : Type} (nl : Bool) (get : Nat → List D) (κ : T → Option α) : KQ.pure 5 [.one (.d (.rof nl 6 0 get))] κ = κ (boolT true) := by kernel_rfl
theorem t5_1 {α : Type} (nl : Bool) (get : Nat → List D) (κ : T → Option α) : KQ.pure 5 [.one (.d (.rof nl 6 1 get))] κ = κ (boolT true) := by kernel_rfl
theorem t5_2 {α : Type} (nl : Bool) (get : Nat → List D) (κ : T → Option α) : KQ.pure 5 [.one (.d (.rof nl 6 2 get))] κ = κ (boolT true) := by kernel_rfl
theorem t5_4 {α : Type} (nl : Bool) (m : Nat) (get : Nat → List D) (κ : T → Option α) : KQ.pure 5 [.one (.d (.rof nl 6 (m + 4) get))] κ = κ (boolT true) := by kernel_rfl
end Go.Ex
