import Derived.Test.YtfnpmhhlhlbclaaDoorDtK
import Derived.Test.YtfnpmhhlhlbclaaDoorDtH
namespace Go.Ex
open Go.Proofs
set_option maxRecDepth 100000
def endV (f : Fi) : Int := match !nameB f.kind f.what, decide (4097 < f.path.length), decide (f.path.length = 0), !plEq (f.path.getD (f.path.length - 1) default) f.at' with
  | true, _, _, _ => 5
  | false, true, _, _ => 3
  | false, false, true, _ => 16
  | false, false, false, true => 16
  | false, false, false, false => 0
def badV (f : Fi) : List Pl → Int
  | [] => endV f
  | p :: r => match chkP p != 0 with
    | true => chkP p
    | false => badV f r
def chkF (f : Fi) : Int := match decide (f.kind < 1), decide (f.kind > 4), chkP f.at' != 0 with
  | true, _, _ => 12
  | false, true, _ => 12
  | false, false, true => chkP f.at'
  | false, false, false => badV f f.path
theorem endR_eq {α : Type} (f : Fi) (κ : T → Option α) (hs : f.path.length < 1073741824) : endR f κ = κ (intT .i64 (endV f)) := by
  unfold endR endV
  have e1 : decide ((f.path.length : Int) > 4097) = decide (4097 < f.path.length) := by rw [decide_eq_decide]; omega
  have e2 : ((f.path.length : Int) == 0) = decide (f.path.length = 0) := by rw [Bool.eq_iff_iff]; simp
  rw [e1, e2]
  by_cases h0 : f.path.length = 0
  · have c0 : decide (f.path.length = 0) = true := by simpa using h0
    rw [c0]
    cases nameB f.kind f.what <;> cases decide (4097 < f.path.length) <;> simp [br]
  · have c0 : decide (f.path.length = 0) = false := by simpa using h0
    rw [c0, wrap_id (by omega) (by omega)]
    have e3 : decide (0 ≤ (f.path.length : Int) - 1) = true := by simp; omega
    have e4 : decide ((f.path.length : Int) - 1 < (f.path.length : Int)) = true := by simp; omega
    have e5 : ((f.path.length : Int) - 1).toNat = f.path.length - 1 := by omega
    rw [e3, e4, e5]
    cases nameB f.kind f.what <;> cases decide (4097 < f.path.length) <;> cases plEq (f.path.getD (f.path.length - 1) default) f.at' <;> simp [br]
theorem rounds12 {α : Type} (fuel : Nat) (f : Fi) (κ : T → Option α) (hp : f.path.length ≤ 4200) : ∀ (m k : Nat), k ≤ f.path.length → f.path.length < k + m →
    loopAt E1 (asks @sumX) (keep12 12) fuel 12 (pureK κ) m (st12 f k) = κ (intT .i64 (badV f (f.path.drop k)))
  | 0, k, h1, h3 => by omega
  | m + 1, k, h1, h3 => by
    rw [step12]
    by_cases hk : k < f.path.length
    · have c1 : decide ((k : Int) < (f.path.length : Int)) = true := by simp; omega
      have c2 : decide (0 ≤ (k : Int)) = true := by simp
      have e1 : f.path.getD (k : Int).toNat default = f.path[k] := by simp [List.getD, hk]
      rw [List.drop_eq_getElem_cons hk, wrap_id (by omega) (by omega)]
      have ih := rounds12 fuel f κ hp m (k + 1) (by omega) (by omega)
      have e : (k : Int) + 1 = ((k + 1 : Nat) : Int) := by omega
      rw [e, ih, e1]
      simp only [c1, c2, br, badV]
      cases chkP f.path[k] != 0 <;> rfl
    · have c1 : decide ((k : Int) < (f.path.length : Int)) = false := by simp; omega
      have e : f.path.drop k = [] := List.drop_eq_nil_of_le (by omega)
      rw [e, okFi_t hp, endR_eq f κ (by omega)]
      simp only [c1, br, badV]
theorem s12 (f : Fi) (hp : f.path.length ≤ 4200) : Says E1 12 [f.t] (intT .i64 (chkF f)) := by
  refine toldX.run keep12 5000 ((start12 5000 f some).trans ?_)
  have hr := rounds12 5000 f some hp 5000 0 (by omega) (by omega)
  have e0 : ((0 : Nat) : Int) = 0 := rfl
  rw [e0, List.drop_zero] at hr
  rw [hr]
  unfold chkF
  cases decide (f.kind < 1) <;> cases decide (f.kind > 4) <;> cases chkP f.at' != 0 <;> rfl
theorem rounds13 {α : Type} (fuel : Nat) (f : Fi) (κ : T → Option α) (hw : f.what.size < 4611686018427387904) (hp : f.path.length ≤ 4200) : ∀ (m k : Nat), k ≤ f.path.length → f.path.length < k + m →
    loopAt E1 (asks @sumX) (keep12 13) fuel 13 (pureK κ) m (st13 f k) = κ (intT .i64 (badV f (f.path.drop k)))
  | 0, k, h1, h3 => by omega
  | m + 1, k, h1, h3 => by
    rw [step13]
    by_cases hk : k < f.path.length
    · have c1 : decide ((k : Int) < (f.path.length : Int)) = true := by simp; omega
      have c2 : decide (0 ≤ (k : Int)) = true := by simp
      have e1 : f.path.getD (k : Int).toNat default = f.path[k] := by simp [List.getD, hk]
      rw [List.drop_eq_getElem_cons hk, wrap_id (by omega) (by omega)]
      have ih := rounds13 fuel f κ hw hp m (k + 1) (by omega) (by omega)
      have e : (k : Int) + 1 = ((k + 1 : Nat) : Int) := by omega
      rw [e, ih, e1]
      simp only [c1, c2, br, badV]
      cases chkP f.path[k] != 0 <;> rfl
    · have c1 : decide ((k : Int) < (f.path.length : Int)) = false := by simp; omega
      have c3 : decide (f.what.size < 4611686018427387904) = true := by simpa using hw
      have e : f.path.drop k = [] := List.drop_eq_nil_of_le (by omega)
      rw [e, c3, endR_eq f κ (by omega)]
      simp only [c1, br, badV]
theorem s13 (f : Fi) (hw : f.what.size < 4611686018427387904) (hp : f.path.length ≤ 4200) : Says E1 13 [f.t] (intT .i64 (chkF f)) := by
  refine toldX.run keep12 5000 ((start13 5000 f some).trans ?_)
  have hr := rounds13 5000 f some hw hp 5000 0 (by omega) (by omega)
  have e0 : ((0 : Nat) : Int) = 0 := rfl
  rw [e0, List.drop_zero] at hr
  rw [hr]
  unfold chkF
  cases decide (f.kind < 1) <;> cases decide (f.kind > 4) <;> cases chkP f.at' != 0 <;> rfl

/-! ### the laws' own summary -/
def okBig (t : T) (f : Fi) : Bool := okFi t && okNum f
def sumT {α : Type} (g : FuncId) (args : List T) (κ : T → Option α) : Option α := match g, args with
  | 7, [] => κ (boolT true)
  | 8, [a, b] => match fiOf a, fiOf b with
    | some f, some g => br (okFi a && okFi b) (κ (intT .i64 (cmpF f g))) none
    | _, _ => none
  | 9, [a, b] => match fiOf a, fiOf b with
    | some f, some g => br (okFi a && okFi b) (κ (intT .i64 (cmpF f g))) none
    | _, _ => none
  | 10, [a] => match fiOf a with
    | some f => br (okBig a f) (κ (strT (keyB f))) none
    | none => none
  | 11, [a] => match fiOf a with
    | some f => br (okBig a f) (κ (strT (keyB f))) none
    | none => none
  | 12, [a] => match fiOf a with
    | some f => br (okBig a f) (κ (intT .i64 (chkF f))) none
    | none => none
  | 13, [a] => match fiOf a with
    | some f => br (okBig a f) (κ (intT .i64 (chkF f))) none
    | none => none
  | _, _ => none
theorem one_told {a : T} {f : Fi} {g : FuncId} {r : Fi → T} (hf : fiOf a = some f) (h : okBig a f = true) (hs : ∀ f : Fi, f.path.length ≤ 4200 → okNum f = true → Says E1 g [f.t] (r f)) : Says E1 g [a] (r f) := by
  simp only [okBig, Bool.and_eq_true] at h
  exact (hs f (fiOf_len hf h.1) h.2).args fun X vals hr => RepTs.map1 (fun v => fiOf_rep hf h.1) hr
theorem two_told {a b : T} {f f' : Fi} {g : FuncId} {r : T} (hf : fiOf a = some f) (hf' : fiOf b = some f') (h : (okFi a && okFi b) = true) (hs : f.path.length ≤ 4200 → f'.path.length ≤ 4200 → Says E1 g [f.t, f'.t] r) : Says E1 g [a, b] r := by
  simp only [Bool.and_eq_true] at h
  exact (hs (fiOf_len hf h.1) (fiOf_len hf' h.2)).args fun X vals hr => RepTs.map2 (fun v => fiOf_rep hf h.1) (fun v => fiOf_rep hf' h.2) hr
theorem okNum_what {f : Fi} (h : okNum f = true) : f.what.size < 4611686018427387904 := by
  simp only [okNum, Bool.and_eq_true, decide_eq_true_eq] at h
  omega
theorem toldT : Told E1 @sumT := by
  intro α g args κ x hx
  unfold sumT at hx
  split at hx
  · exact ⟨_, hx, fun _ => rfl, awake_says⟩
  · rename_i a b
    split at hx
    · rename_i f f' hf hf'
      cases hb : okFi a && okFi b with
      | false => rw [hb] at hx; simp [br] at hx
      | true =>
        rw [hb] at hx
        exact ⟨_, hx, fun κ' => by simp only [sumT, hf, hf', hb, br], two_told hf hf' hb fun h1 h2 => s8 f f' h1 h2⟩
    · simp at hx
  · rename_i a b
    split at hx
    · rename_i f f' hf hf'
      cases hb : okFi a && okFi b with
      | false => rw [hb] at hx; simp [br] at hx
      | true =>
        rw [hb] at hx
        exact ⟨_, hx, fun κ' => by simp only [sumT, hf, hf', hb, br], two_told hf hf' hb fun h1 _ => s9 f f' h1⟩
    · simp at hx
  · rename_i a
    split at hx
    · rename_i f hf
      cases hb : okBig a f with
      | false => rw [hb] at hx; simp [br] at hx
      | true =>
        rw [hb] at hx
        exact ⟨_, hx, fun κ' => by simp only [sumT, hf, hb, br], one_told (r := fun f => strT (keyB f)) hf hb fun f _ h => s10 h⟩
    · simp at hx
  · rename_i a
    split at hx
    · rename_i f hf
      cases hb : okBig a f with
      | false => rw [hb] at hx; simp [br] at hx
      | true =>
        rw [hb] at hx
        exact ⟨_, hx, fun κ' => by simp only [sumT, hf, hb, br], one_told (r := fun f => strT (keyB f)) hf hb fun f _ h => s11 h⟩
    · simp at hx
  · rename_i a
    split at hx
    · rename_i f hf
      cases hb : okBig a f with
      | false => rw [hb] at hx; simp [br] at hx
      | true =>
        rw [hb] at hx
        exact ⟨_, hx, fun κ' => by simp only [sumT, hf, hb, br], one_told (r := fun f => intT .i64 (chkF f)) hf hb fun f h _ => s12 f h⟩
    · simp at hx
  · rename_i a
    split at hx
    · rename_i f hf
      cases hb : okBig a f with
      | false => rw [hb] at hx; simp [br] at hx
      | true =>
        rw [hb] at hx
        exact ⟨_, hx, fun κ' => by simp only [sumT, hf, hb, br], one_told (r := fun f => intT .i64 (chkF f)) hf hb fun f h h' => s13 f (okNum_what h') h⟩
    · simp at hx
  · simp at hx
end Go.Ex
