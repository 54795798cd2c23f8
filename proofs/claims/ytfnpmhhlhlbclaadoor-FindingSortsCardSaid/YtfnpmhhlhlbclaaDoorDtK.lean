import Derived.Test.YtfnpmhhlhlbclaaDoorDtJ
namespace Go.Ex
open Go.Proofs
set_option maxRecDepth 100000
/-- what is asked behind the bytes -/
def restB (k : Int) (s : ByteArray) : Bool := match k == 2, k == 3, k == 4 with
  | true, _, _ => identB s
  | false, true, _ => identB s
  | false, false, true => tfB s
  | false, false, false => true
theorem rounds30 {α : Type} (fuel : Nat) (f : Fi) (κ : T → Option α) (hs : f.what.size < 1073741824) : ∀ (m k : Nat), k ≤ f.what.size → f.what.size < k + m →
    loopAt E1 (asks @sumW) (keep30 30) fuel 30 (pureK κ) m (st30 f k) = κ (boolT (allIn ((bytes f.what).drop k) && restB f.kind f.what))
  | 0, k, h1, h2 => by omega
  | m + 1, k, h1, h2 => by
    rw [step30]
    by_cases hk : k < f.what.size
    · have c1 : decide ((k : Int) < (f.what.size : Int)) = true := by simp; omega
      have hb : k < (bytes f.what).length := by rw [bytes_len]; exact hk
      have ih := rounds30 fuel f κ hs m (k + 1) (by omega) (by omega)
      rw [at1_eq hb, at1_eq hb, wrap_id (by omega) (by omega), List.drop_eq_getElem_cons hb]
      have e : (k : Int) + 1 = ((k + 1 : Nat) : Int) := by omega
      rw [e, ih]
      simp only [c1, allIn, List.all_cons, inI]
      cases decide (((bytes f.what)[k].toNat : Int) < 33) <;> cases decide (((bytes f.what)[k].toNat : Int) > 126) <;> simp [br]
    · have c1 : decide ((k : Int) < (f.what.size : Int)) = false := by simp; omega
      have e : (bytes f.what).drop k = [] := List.drop_eq_nil_of_le (by rw [bytes_len]; omega)
      simp only [c1, br, e, allIn, List.all_nil, Bool.true_and]
      unfold restB Y32 tfB
      cases f.kind == 2 <;> cases f.kind == 3 <;> cases f.kind == 4 <;> cases eqS f.what trueS <;> simp [br]
theorem part_in (x : Int) (h : partI x = true) : inI x = true := by
  simp only [partI, letterI, digitI, Bool.or_eq_true, Bool.and_eq_true, decide_eq_true_eq, beq_iff_eq] at h
  simp only [inI, Bool.not_eq_true', Bool.or_eq_false_iff, decide_eq_false_iff_not]
  omega
theorem all_in {l : List UInt8} (h : allPart l = true) : allIn l = true := by
  simp only [allPart, allIn, List.all_eq_true] at h ⊢
  exact fun x hx => part_in _ (h x hx)
theorem eqS_iff {a b : ByteArray} : eqS a b = true ↔ a = b := by
  unfold eqS
  rw [ByteArray.toList_eq, ByteArray.toList_eq]
  simp only [beq_iff_eq]
  constructor
  · intro h
    apply ByteArray.ext
    exact Array.toList_inj.1 h
  · intro h; rw [h]
theorem ident_word {s : ByteArray} (h : identB s = true) : wordB s = true := by
  simp only [identB, Bool.and_eq_true, Bool.not_eq_true', empty_iff, decide_eq_false_iff_not, decide_eq_true_eq] at h
  obtain ⟨h0, h1, _, h3, _⟩ := h
  simp only [wordB, Bool.and_eq_true, decide_eq_true_eq]
  exact ⟨all_in h3, by omega, h1⟩
theorem tf_word {s : ByteArray} (h : tfB s = true) : wordB s = true := by
  simp only [tfB, Bool.or_eq_true, eqS_iff] at h
  rcases h with h | h <;> subst h <;> decide
theorem s30 (f : Fi) : Says E1 30 [f.t] (boolT (nameB f.kind f.what)) := by
  refine toldW.run keep30 5000 ((start30 5000 f some).trans ?_)
  have goal : nameB f.kind f.what = (wordB f.what && restB f.kind f.what) := by
    unfold nameB restB
    have hi := @ident_word f.what
    have ht := @tf_word f.what
    cases f.kind == 2 <;> cases f.kind == 3 <;> cases f.kind == 4 <;> simp <;> cases hw : wordB f.what <;> simp_all
  rw [goal, empty_iff]
  unfold wordB
  by_cases h0 : f.what.size = 0
  · simp [h0, br]
  · have c0 : decide (f.what.size = 0) = false := by simpa using h0
    have c0' : decide (1 ≤ f.what.size) = true := by simp; omega
    rw [c0, c0']
    by_cases h1 : f.what.size ≤ 32
    · have c1 : decide (f.what.size ≤ 32) = true := by simpa using h1
      have c1' : decide ((f.what.size : Int) > 32) = false := by simp; omega
      have hr := rounds30 5000 f some (by omega) 5000 0 (by omega) (by omega)
      have e0 : ((0 : Nat) : Int) = 0 := rfl
      rw [e0, List.drop_zero] at hr
      rw [c1, c1', hr]
      simp [br]
    · have c1 : decide (f.what.size ≤ 32) = false := by simpa using h1
      have c1' : decide ((f.what.size : Int) > 32) = true := by simp; omega
      rw [c1, c1']
      simp [br]

/-! ### Check -/
/-- a finding out of its cells -/
def fiOf : T → Option Fi
  | .agg [.d (.v (.int .i64 k)), .d (.v (.string c)), .d (.v (.string m)), .d (.v (.int .i64 n)), .d (.v (.string s)), .d (.rof nl 3 len get)] => some ⟨k, ⟨c, m, n⟩, s, nl, plsOf len get⟩
  | _ => none
def okFi : T → Bool
  | .agg [.d (.v (.int .i64 _)), .d (.v (.string _)), .d (.v (.string _)), .d (.v (.int .i64 _)), .d (.v (.string _)), .d (.rof _ 3 len get)] => okPls len get
  | _ => false
theorem okFi_t {f : Fi} (h : f.path.length ≤ 4200) : okFi f.t = true := okPls_path h
theorem fiOf_len {t : T} {f : Fi} (h : fiOf t = some f) (ho : okFi t = true) : f.path.length ≤ 4200 := by
  unfold fiOf at h
  split at h
  · cases h
    simp only [okFi, okPls, Bool.and_eq_true] at ho
    simpa [plsOf] using Nat.le_of_ble_eq_true ho.1
  · simp at h
theorem fiOf_rep {t : T} {f : Fi} (h : fiOf t = some f) (ho : okFi t = true) {X : Ctx} {v : Value} (hr : RepT X t v) : RepT X f.t v := by
  unfold fiOf at h
  split at h
  · rename_i k c m n s nl len get
    cases h
    simp only [okFi] at ho
    cases hr with | agg _ vs hl hr =>
    refine .agg _ vs hl fun j c v h1 h2 => ?_
    have hlt := (List.getElem?_eq_some_iff.1 h1).1
    match j, hlt with
    | 0, _ => cases h1; exact hr 0 _ _ rfl h2
    | 1, _ => cases h1; exact hr 1 _ _ rfl h2
    | 2, _ => cases h1; exact hr 2 _ _ rfl h2
    | 3, _ => cases h1; exact hr 3 _ _ rfl h2
    | 4, _ => cases h1; exact hr 4 _ _ rfl h2
    | 5, _ =>
      cases h1
      have := rof_eq ho (.one _ _ (hr 5 _ _ rfl h2))
      cases this with | one _ _ h => exact h
  · simp at h
theorem RepTs.map1 {X : Ctx} {a a' : T} (ha : ∀ v, RepT X a v → RepT X a' v) {vals : List Value} (h : RepTs X [a] vals) : RepTs X [a'] vals := by
  obtain ⟨hl, hr⟩ := h
  refine ⟨hl, fun j t v h1 h2 => ?_⟩
  match j, h1 with
  | 0, h1 => cases h1; exact ha _ (hr 0 _ _ rfl h2)
theorem RepTs.map2 {X : Ctx} {a b a' b' : T} (ha : ∀ v, RepT X a v → RepT X a' v) (hb : ∀ v, RepT X b v → RepT X b' v) {vals : List Value} (h : RepTs X [a, b] vals) : RepTs X [a', b'] vals := by
  obtain ⟨hl, hr⟩ := h
  refine ⟨hl, fun j t v h1 h2 => ?_⟩
  match j, h1 with
  | 0, h1 => cases h1; exact ha _ (hr 0 _ _ rfl h2)
  | 1, h1 => cases h1; exact hb _ (hr 1 _ _ rfl h2)

def sumX {α : Type} (f : FuncId) (args : List T) (κ : T → Option α) : Option α := match f, args with
  | 29, [.agg [.d (.v (.string c)), .d (.v (.string m)), .d (.v (.int .i64 n))]] => κ (intT .i64 (chkP ⟨c, m, n⟩))
  | 31, [.agg [.d (.v (.string c)), .d (.v (.string m)), .d (.v (.int .i64 n))]] => κ (intT .i64 (chkP ⟨c, m, n⟩))
  | 30, [t] => match fiOf t with
    | some f => br (okFi t) (κ (boolT (nameB f.kind f.what))) none
    | none => none
  | 32, [.one (.d (.v (.int .i64 k))), .one (.d (.v (.string s)))] => br (decide (s.size < 4611686018427387904)) (κ (boolT (nameB k s))) none
  | _, _ => none
theorem toldX : Told E1 @sumX := by
  intro α f args κ x hx
  unfold sumX at hx
  split at hx
  · exact ⟨_, hx, fun _ => rfl, s29 ⟨_, _, _⟩⟩
  · exact ⟨_, hx, fun _ => rfl, s31 ⟨_, _, _⟩⟩
  · rename_i t
    split at hx
    · rename_i f hf
      cases hb : okFi t with
      | false => rw [hb] at hx; simp [br] at hx
      | true =>
        rw [hb] at hx
        refine ⟨_, hx, fun κ' => by simp only [sumX, hf, hb, br], ?_⟩
        exact (s30 f).args fun X vals hr => RepTs.map1 (fun v => fiOf_rep hf hb) hr
    · simp at hx
  · rename_i k s
    cases hb : decide (s.size < 4611686018427387904) with
    | false => rw [hb] at hx; simp [br] at hx
    | true =>
      rw [hb] at hx
      refine ⟨_, hx, fun κ' => by simp only [sumX, hb, br], ?_⟩
      exact s32 k s (by simpa using hb)
  · simp at hx

def plEq (p q : Pl) : Bool := p.c == q.c && (p.m == q.m && (p.n == q.n && true))
def endR {α : Type} (f : Fi) (κ : T → Option α) : Option α :=
  br (!nameB f.kind f.what) (κ (intT .i64 5)) (br (decide ((f.path.length : Int) > 4097)) (κ (intT .i64 3)) (br ((f.path.length : Int) == 0) (κ (intT .i64 16))
    (br (decide (0 ≤ IntKind.i64.wrap ((f.path.length : Int) - 1))) (br (decide (IntKind.i64.wrap ((f.path.length : Int) - 1) < (f.path.length : Int)))
      (br (!plEq (f.path.getD (IntKind.i64.wrap ((f.path.length : Int) - 1)).toNat default) f.at') (κ (intT .i64 16)) (κ (intT .i64 0))) none) none)))
def keep12 (f r : Nat) : Option Keep := match f, r with
  | 12, 7 => some { tm := [1, 23, 24, 25], ids := [3145728] }
  | 13, 7 => some { tm := [1, 4], ids := [3407872] }
  | _, _ => none
def st12 (f : Fi) (i : Int) : St :=
  { tm := [.any, .one (.ptr 3145728 0 0 0)] ++ List.replicate 21 .any ++ [pathT f.nil f.path, intT .i64 f.path.length, intT .i64 i] ++ List.replicate 33 .any, h := [(3145728, ⟨0, .dat false 6 [f.ds]⟩)] }
theorem start12 {α : Type} (fuel : Nat) (f : Fi) (κ : T → Option α) : ((asks @sumX).next E1 keep12 fuel).pure 12 [f.t] κ =
    br (decide (f.kind < 1)) (κ (intT .i64 12)) (br (decide (f.kind > 4)) (κ (intT .i64 12)) (br (chkP f.at' != 0) (κ (intT .i64 (chkP f.at'))) (loopAt E1 (asks @sumX) (keep12 12) fuel 12 (pureK κ) fuel (st12 f 0)))) := by kernel_rfl
theorem step12 {α : Type} (fuel m : Nat) (f : Fi) (i : Int) (κ : T → Option α) : loopAt E1 (asks @sumX) (keep12 12) fuel 12 (pureK κ) (m + 1) (st12 f i) =
    br (decide (i < (f.path.length : Int))) (br (decide (0 ≤ i)) (br (decide (i < (f.path.length : Int))) (br (chkP (f.path.getD i.toNat default) != 0) (κ (intT .i64 (chkP (f.path.getD i.toNat default))))
      (loopAt E1 (asks @sumX) (keep12 12) fuel 12 (pureK κ) m (st12 f (IntKind.i64.wrap (i + 1))))) none) none) (br (okFi f.t) (endR f κ) none) := by kernel_rfl
def st13 (f : Fi) (i : Int) : St :=
  { tm := [.any, .one (.ptr 3407872 0 0 0), .any, .any, intT .i64 i] ++ List.replicate 58 .any, h := [(3407872, ⟨0, .dat false 6 [f.ds]⟩)] }
theorem start13 {α : Type} (fuel : Nat) (f : Fi) (κ : T → Option α) : ((asks @sumX).next E1 keep12 fuel).pure 13 [f.t] κ =
    br (decide (f.kind < 1)) (κ (intT .i64 12)) (br (decide (f.kind > 4)) (κ (intT .i64 12)) (br (chkP f.at' != 0) (κ (intT .i64 (chkP f.at'))) (loopAt E1 (asks @sumX) (keep12 13) fuel 13 (pureK κ) fuel (st13 f 0)))) := by kernel_rfl
theorem step13 {α : Type} (fuel m : Nat) (f : Fi) (i : Int) (κ : T → Option α) : loopAt E1 (asks @sumX) (keep12 13) fuel 13 (pureK κ) (m + 1) (st13 f i) =
    br (decide (i < (f.path.length : Int))) (br (decide (0 ≤ i)) (br (decide (i < (f.path.length : Int))) (br (chkP (f.path.getD i.toNat default) != 0) (κ (intT .i64 (chkP (f.path.getD i.toNat default))))
      (loopAt E1 (asks @sumX) (keep12 13) fuel 13 (pureK κ) m (st13 f (IntKind.i64.wrap (i + 1))))) none) none) (br (decide (f.what.size < 4611686018427387904)) (endR f κ) none) := by kernel_rfl
end Go.Ex
