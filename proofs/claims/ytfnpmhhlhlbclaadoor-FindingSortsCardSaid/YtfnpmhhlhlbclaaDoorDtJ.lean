import Derived.Test.YtfnpmhhlhlbclaaDoorDtG
namespace Go.Ex
open Go.Proofs
set_option maxRecDepth 100000
theorem rounds39 {α : Type} (fuel : Nat) (s : ByteArray) (κ : T → Option α) (hs : s.size < 1073741824) : ∀ (m k : Nat), k ≤ s.size → s.size < k + m →
    loopAt E1 (asks @sumH) (keep39 39) fuel 39 (pureK κ) m (st39 s k) = κ (boolT (allPart ((bytes s).drop k)))
  | 0, k, h1, h2 => by omega
  | m + 1, k, h1, h2 => by
    rw [step39]
    by_cases hk : k < s.size
    · have c1 : decide ((k : Int) < (s.size : Int)) = true := by simp; omega
      have hb : k < (bytes s).length := by rw [bytes_len]; exact hk
      have ih := rounds39 fuel s κ hs m (k + 1) (by omega) (by omega)
      rw [at1_eq hb, wrap_id (by omega) (by omega), List.drop_eq_getElem_cons hb]
      have e : (k : Int) + 1 = ((k + 1 : Nat) : Int) := by omega
      rw [e, ih]
      simp only [c1, allPart, List.all_cons]
      cases partI ((bytes s)[k].toNat : Int) <;> simp [br]
    · have c1 : decide ((k : Int) < (s.size : Int)) = false := by simp; omega
      have e : (bytes s).drop k = [] := List.drop_eq_nil_of_le (by rw [bytes_len]; omega)
      simp only [c1, br, e, allPart, List.all_nil]
theorem empty_iff (s : ByteArray) : eqS s ⟨#[]⟩ = decide (s.size = 0) := by
  unfold eqS
  have e : (⟨#[]⟩ : ByteArray).toList = [] := by rw [ByteArray.toList_eq]
  rw [e, Bool.eq_iff_iff]
  simp only [beq_iff_eq, decide_eq_true_eq]
  have h : s.toList.length = s.size := by
    have := ByteArray.toList_eq s
    rw [this]
    simp
  constructor
  · intro h'
    rw [← h, h']
    rfl
  · intro h'
    exact List.eq_nil_of_length_eq_zero (by rw [h, h'])
theorem s38 (s : ByteArray) : Says E1 38 [strT s] (boolT (identB s)) := by
  refine toldH.run nokeep 5000 ((t38 s some).trans ?_)
  unfold identB
  rw [empty_iff]
  by_cases h0 : s.size = 0
  · simp [h0, br]
  · have c0 : decide (s.size = 0) = false := by simpa using h0
    rw [c0]
    by_cases h1 : s.size ≤ 32
    · have c1 : decide (s.size ≤ 32) = true := by simpa using h1
      have c1' : decide ((s.size : Int) ≤ 32) = true := by simp; omega
      have c2 : decide (s.size ≤ 4000) = true := by simp; omega
      have hb : 0 < (bytes s).length := by rw [bytes_len]; omega
      have ha := at1_eq (α := T) hb
      have hb0 := byteAt_eq hb
      have e0 : ((0 : Nat) : Int) = 0 := rfl
      rw [e0] at ha hb0
      rw [c1, c1', ha, hb0, c2]
      have e : (((wordLen (bytes s) : Nat) : Int) == (s.size : Int)) = allPart (bytes s) := by
        rw [← wordLen_all, bytes_len, Bool.eq_iff_iff]
        simp
        omega
      rw [e]
      cases letterI ((bytes s)[0].toNat : Int) <;> cases allPart (bytes s) <;> simp [br]
    · have c1 : decide (s.size ≤ 32) = false := by simpa using h1
      have c1' : decide ((s.size : Int) ≤ 32) = false := by simp; omega
      rw [c1, c1']
      simp [br]
theorem s39 (s : ByteArray) : Says E1 39 [strT s] (boolT (identB s)) := by
  refine toldH.run keep39 5000 ((start39 5000 s some).trans ?_)
  unfold identB
  rw [empty_iff]
  by_cases h0 : s.size = 0
  · simp [h0, br]
  · have c0 : decide (s.size = 0) = false := by simpa using h0
    rw [c0]
    by_cases h1 : s.size ≤ 32
    · have c1 : decide (s.size ≤ 32) = true := by simpa using h1
      have c1' : decide ((s.size : Int) > 32) = false := by simp; omega
      have hb : 0 < (bytes s).length := by rw [bytes_len]; omega
      have ha := at1_eq (α := T) hb
      have hb0 := byteAt_eq hb
      have e0 : ((0 : Nat) : Int) = 0 := rfl
      rw [e0] at ha hb0
      have hr := rounds39 5000 s some (by omega) 5000 0 (by omega) (by omega)
      rw [e0, List.drop_zero] at hr
      rw [c1, c1', ha, hb0, hr]
      cases letterI ((bytes s)[0].toNat : Int) <;> cases keyword s <;> simp [br]
    · have c1 : decide (s.size ≤ 32) = false := by simpa using h1
      have c1' : decide ((s.size : Int) > 32) = true := by simp; omega
      rw [c1, c1']
      simp [br]

def sumI {α : Type} (f : FuncId) (args : List T) (κ : T → Option α) : Option α := match f, args with
  | 38, [.one (.d (.v (.string s)))] => κ (boolT (identB s))
  | 39, [.one (.d (.v (.string s)))] => κ (boolT (identB s))
  | _, _ => none
theorem toldI : Told E1 @sumI := by
  intro α f args κ x h
  unfold sumI at h
  split at h
  · exact ⟨_, h, fun _ => rfl, s38 _⟩
  · exact ⟨_, h, fun _ => rfl, s39 _⟩
  · simp at h

/-! ### places -/
def chkP (p : Pl) : Int := match identB p.c, identB p.m, decide (p.n < 0), decide (p.n ≥ 1024) with
  | false, _, _, _ => 5
  | true, false, _, _ => 5
  | true, true, true, _ => 4
  | true, true, false, true => 4
  | true, true, false, false => 0
theorem t29 {α : Type} (p : Pl) (κ : T → Option α) : ((asks @sumI).next E1 nokeep 5000).pure 29 [p.t] κ =
    br (!identB p.c) (κ (intT .i64 5)) (br (!identB p.m) (κ (intT .i64 5)) (br (decide (p.n < 0)) (κ (intT .i64 4)) (br (decide (p.n ≥ 1024)) (κ (intT .i64 4)) (κ (intT .i64 0))))) := by kernel_rfl
theorem t31 {α : Type} (p : Pl) (κ : T → Option α) : ((asks @sumI).next E1 nokeep 5000).pure 31 [p.t] κ =
    br (!identB p.c) (κ (intT .i64 5)) (br (!identB p.m) (κ (intT .i64 5)) (br (decide (p.n < 0)) (κ (intT .i64 4)) (br (decide (p.n ≥ 1024)) (κ (intT .i64 4)) (κ (intT .i64 0))))) := by kernel_rfl
theorem chkP_eq (p : Pl) : br (!identB p.c) (some (intT .i64 5)) (br (!identB p.m) (some (intT .i64 5)) (br (decide (p.n < 0)) (some (intT .i64 4)) (br (decide (p.n ≥ 1024)) (some (intT .i64 4)) (some (intT .i64 0))))) = some (intT .i64 (chkP p)) := by
  unfold chkP
  cases identB p.c <;> cases identB p.m <;> cases decide (p.n < 0) <;> cases decide (p.n ≥ 1024) <;> rfl
theorem s29 (p : Pl) : Says E1 29 [p.t] (intT .i64 (chkP p)) := toldI.run nokeep 5000 ((t29 p some).trans (chkP_eq p))
theorem s31 (p : Pl) : Says E1 31 [p.t] (intT .i64 (chkP p)) := toldI.run nokeep 5000 ((t31 p some).trans (chkP_eq p))

/-! ### What -/
def inI (x : Int) : Bool := !(decide (x < 33) || decide (x > 126))
def allIn (l : List UInt8) : Bool := l.all fun x => inI (x.toNat : Int)
def keep40 (_ r : Nat) : Option Keep := match r with
  | 2 => some { tm := [0, 3], ids := [] }
  | _ => none
def st40 (s : ByteArray) (i : Int) : St := { tm := [strT s, .any, .any, intT .i64 i] ++ List.replicate 24 .any, h := [] }
theorem start40 {α : Type} (fuel : Nat) (s : ByteArray) (κ : T → Option α) : ((asks @nosum).next E1 keep40 fuel).pure 40 [strT s] κ = loopAt E1 (asks @nosum) (keep40 40) fuel 40 (pureK κ) fuel (st40 s 0) := by kernel_rfl
theorem step40 {α : Type} (fuel m : Nat) (s : ByteArray) (i : Int) (κ : T → Option α) : loopAt E1 (asks @nosum) (keep40 40) fuel 40 (pureK κ) (m + 1) (st40 s i) =
    br (decide (i < (s.size : Int))) (at1 s i fun x => br (decide (x < 33)) (κ (boolT false)) (at1 s i fun x => br (decide (x > 126)) (κ (boolT false)) (loopAt E1 (asks @nosum) (keep40 40) fuel 40 (pureK κ) m (st40 s (IntKind.i64.wrap (i + 1))))))
      (br (decide ((s.size : Int) ≥ 1)) (κ (boolT (decide ((s.size : Int) ≤ 32)))) (κ (boolT false))) := by kernel_rfl

theorem rounds40 {α : Type} (fuel : Nat) (s : ByteArray) (κ : T → Option α) (hs : s.size < 4611686018427387904) : ∀ (m k : Nat), k ≤ s.size → s.size < k + m →
    loopAt E1 (asks @nosum) (keep40 40) fuel 40 (pureK κ) m (st40 s k) = κ (boolT (allIn ((bytes s).drop k) && (decide (1 ≤ s.size) && decide (s.size ≤ 32))))
  | 0, k, h1, h2 => by omega
  | m + 1, k, h1, h2 => by
    rw [step40]
    by_cases hk : k < s.size
    · have c1 : decide ((k : Int) < (s.size : Int)) = true := by simp; omega
      have hb : k < (bytes s).length := by rw [bytes_len]; exact hk
      have ih := rounds40 fuel s κ hs m (k + 1) (by omega) (by omega)
      rw [at1_eq hb, at1_eq hb, wrap_id (by omega) (by omega), List.drop_eq_getElem_cons hb]
      have e : (k : Int) + 1 = ((k + 1 : Nat) : Int) := by omega
      rw [e, ih]
      simp only [c1, allIn, List.all_cons, inI]
      cases decide (((bytes s)[k].toNat : Int) < 33) <;> cases decide (((bytes s)[k].toNat : Int) > 126) <;> simp [br]
    · have c1 : decide ((k : Int) < (s.size : Int)) = false := by simp; omega
      have e : (bytes s).drop k = [] := List.drop_eq_nil_of_le (by rw [bytes_len]; omega)
      have e1 : decide ((s.size : Int) ≥ 1) = decide (1 ≤ s.size) := by rw [decide_eq_decide]; omega
      have e2 : decide ((s.size : Int) ≤ 32) = decide (s.size ≤ 32) := by rw [decide_eq_decide]; omega
      simp only [c1, br, e, allIn, List.all_nil, e1, e2]
      cases decide (1 ≤ s.size) <;> simp
def wordB (s : ByteArray) : Bool := allIn (bytes s) && (decide (1 ≤ s.size) && decide (s.size ≤ 32))
theorem s40 (s : ByteArray) (hs : s.size < 4611686018427387904) : Says E1 40 [strT s] (boolT (wordB s)) := by
  refine nosum_told.run keep40 (s.size + 1) ((start40 (s.size + 1) s some).trans ?_)
  have := rounds40 (s.size + 1) s some hs (s.size + 1) 0 (by omega) (by omega)
  simpa [wordB] using this
def sumW {α : Type} (f : FuncId) (args : List T) (κ : T → Option α) : Option α := match f, args with
  | 38, [.one (.d (.v (.string s)))] => κ (boolT (identB s))
  | 39, [.one (.d (.v (.string s)))] => κ (boolT (identB s))
  | 40, [.one (.d (.v (.string s)))] => br (decide (s.size < 4611686018427387904)) (κ (boolT (wordB s))) none
  | _, _ => none
theorem toldW : Told E1 @sumW := by
  intro α f args κ x hx
  unfold sumW at hx
  split at hx
  · exact ⟨_, hx, fun _ => rfl, s38 _⟩
  · exact ⟨_, hx, fun _ => rfl, s39 _⟩
  · rename_i s
    cases hb : decide (s.size < 4611686018427387904) with
    | false => rw [hb] at hx; simp [br] at hx
    | true =>
      rw [hb] at hx
      refine ⟨_, hx, fun κ' => by simp only [sumW, hb, br], ?_⟩
      exact s40 s (by simpa using hb)
  · simp at hx
def trueS : ByteArray := ⟨#[116, 114, 117, 101]⟩
def falseS : ByteArray := ⟨#[102, 97, 108, 115, 101]⟩
def tfB (s : ByteArray) : Bool := eqS s trueS || eqS s falseS
def nameB (k : Int) (s : ByteArray) : Bool := match k == 2, k == 3, k == 4 with
  | true, _, _ => identB s
  | false, true, _ => identB s
  | false, false, true => tfB s
  | false, false, false => wordB s
def Y32 {α : Type} (k : Int) (s : ByteArray) (κ : T → Option α) (z : Option α) : Option α := br (k == 4) (br (eqS s trueS) (κ (boolT true)) (κ (boolT (eqS s falseS)))) z
theorem t32 {α : Type} (k : Int) (s : ByteArray) (κ : T → Option α) : ((asks @sumW).next E1 nokeep 5000).pure 32 [intT .i64 k, strT s] κ =
    br (k == 2) (br (k == 2) (κ (boolT (identB s))) (Y32 k s κ (br (decide (s.size < 4611686018427387904)) (κ (boolT (wordB s))) none)))
      (br (k == 3) (κ (boolT (identB s))) (Y32 k s κ (br (decide (s.size < 4611686018427387904)) (κ (boolT (wordB s))) none))) := by kernel_rfl
theorem s32 (k : Int) (s : ByteArray) (hs : s.size < 4611686018427387904) : Says E1 32 [intT .i64 k, strT s] (boolT (nameB k s)) := by
  refine toldW.run nokeep 5000 ((t32 k s some).trans ?_)
  have hs : decide (s.size < 4611686018427387904) = true := by simpa using hs
  rw [hs]
  unfold nameB Y32 tfB
  cases k == 2 <;> cases k == 3 <;> cases k == 4 <;> cases eqS s trueS <;> simp [br]

/-! ### the program's named -/
def keep30 (_ r : Nat) : Option Keep := match r with
  | 4 => some { tm := [1, 15, 16], ids := [7864320] }
  | _ => none
def st30 (f : Fi) (i : Int) : St :=
  { tm := [.any, .one (.ptr 7864320 0 0 0), .any, .any, .any, .any, .any, .any, .any, .any, .any, .any, .any, .any, .any, intT .i64 f.what.size, intT .i64 i] ++ List.replicate 33 .any, h := [(7864320, ⟨0, .dat false 6 [f.ds]⟩)] }
theorem start30 {α : Type} (fuel : Nat) (f : Fi) (κ : T → Option α) : ((asks @sumW).next E1 keep30 fuel).pure 30 [f.t] κ =
    br (eqS f.what ⟨#[]⟩) (κ (boolT false)) (br (decide ((f.what.size : Int) > 32)) (κ (boolT false)) (loopAt E1 (asks @sumW) (keep30 30) fuel 30 (pureK κ) fuel (st30 f 0))) := by kernel_rfl
theorem step30 {α : Type} (fuel m : Nat) (f : Fi) (i : Int) (κ : T → Option α) : loopAt E1 (asks @sumW) (keep30 30) fuel 30 (pureK κ) (m + 1) (st30 f i) =
    br (decide (i < (f.what.size : Int))) (at1 f.what i fun x => br (decide (x < 33)) (κ (boolT false)) (at1 f.what i fun x => br (decide (x > 126)) (κ (boolT false)) (loopAt E1 (asks @sumW) (keep30 30) fuel 30 (pureK κ) m (st30 f (IntKind.i64.wrap (i + 1))))))
      (br (f.kind == 2) (br (f.kind == 2) (κ (boolT (identB f.what))) (Y32 f.kind f.what κ (κ (boolT true)))) (br (f.kind == 3) (κ (boolT (identB f.what))) (Y32 f.kind f.what κ (κ (boolT true))))) := by kernel_rfl
end Go.Ex
