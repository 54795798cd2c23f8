import Derived.Test.YtfnpmhhlhlbclaaDoorDtF
namespace Go.Ex
open Go.Proofs
set_option maxRecDepth 100000
/-! ### letters, words, keywords -/
def byteT (x : Int) : T := intT .u8 x
def letterI (x : Int) : Bool := (decide (97 ≤ x) && decide (x ≤ 122)) || (decide (65 ≤ x) && decide (x ≤ 90))
def digitI (x : Int) : Bool := decide (48 ≤ x) && decide (x ≤ 57)
def partI (x : Int) : Bool := letterI x || digitI x || (x == 95)
noncomputable def KG0 : Calls' := (asks @nosum).next E1 nokeep 5000
theorem t46 {α : Type} (x : Int) (κ : T → Option α) : KG0.pure 46 [byteT x] κ =
    br (decide (x ≥ 97)) (br (decide (x ≤ 122)) (κ (boolT true)) (br (decide (x ≥ 65)) (κ (boolT (decide (x ≤ 90)))) (κ (boolT false)))) (br (decide (x ≥ 65)) (κ (boolT (decide (x ≤ 90)))) (κ (boolT false))) := by kernel_rfl
theorem t49 {α : Type} (x : Int) (κ : T → Option α) : KG0.pure 49 [byteT x] κ =
    br (decide (x ≥ 97)) (br (decide (x ≤ 122)) (κ (boolT true)) (br (decide (x ≥ 65)) (κ (boolT (decide (x ≤ 90)))) (κ (boolT false)))) (br (decide (x ≥ 65)) (κ (boolT (decide (x ≤ 90)))) (κ (boolT false))) := by kernel_rfl
theorem t57 {α : Type} (x : Int) (κ : T → Option α) : KG0.pure 57 [byteT x] κ = br (decide (x ≥ 48)) (κ (boolT (decide (x ≤ 57)))) (κ (boolT false)) := by kernel_rfl
theorem t58 {α : Type} (x : Int) (κ : T → Option α) : KG0.pure 58 [byteT x] κ = br (decide (x ≥ 48)) (κ (boolT (decide (x ≤ 57)))) (κ (boolT false)) := by kernel_rfl
theorem letter_eq (x : Int) : br (decide (x ≥ 97)) (br (decide (x ≤ 122)) (some (boolT true)) (br (decide (x ≥ 65)) (some (boolT (decide (x ≤ 90)))) (some (boolT false)))) (br (decide (x ≥ 65)) (some (boolT (decide (x ≤ 90)))) (some (boolT false))) = some (boolT (letterI x)) := by
  unfold letterI
  by_cases h1 : x ≥ 97 <;> by_cases h2 : x ≤ 122 <;> by_cases h3 : x ≥ 65 <;> by_cases h4 : x ≤ 90 <;> simp [h1, h2, h3, h4, br] <;> omega
theorem digit_eq (x : Int) : br (decide (x ≥ 48)) (some (boolT (decide (x ≤ 57)))) (some (boolT false)) = some (boolT (digitI x)) := by
  unfold digitI
  by_cases h1 : x ≥ 48 <;> simp [h1, br]
theorem s46 (x : Int) : Says E1 46 [byteT x] (boolT (letterI x)) := nosum_told.run nokeep 5000 ((t46 x some).trans (letter_eq x))
theorem s49 (x : Int) : Says E1 49 [byteT x] (boolT (letterI x)) := nosum_told.run nokeep 5000 ((t49 x some).trans (letter_eq x))
theorem s57 (x : Int) : Says E1 57 [byteT x] (boolT (digitI x)) := nosum_told.run nokeep 5000 ((t57 x some).trans (digit_eq x))
theorem s58 (x : Int) : Says E1 58 [byteT x] (boolT (digitI x)) := nosum_told.run nokeep 5000 ((t58 x some).trans (digit_eq x))

def kwR {α : Type} (eq : ByteArray → Bool) (κ : T → Option α) : List (List UInt8) → Option α
  | [] => κ (boolT false)
  | w :: r => br (eq ⟨w.toArray⟩) (κ (boolT true)) (kwR eq κ r)
theorem t48 {α : Type} (s : ByteArray) (κ : T → Option α) : KG0.pure 48 [strT s] κ = kwR (fun w => eqS s w) κ kwords := by kernel_rfl
theorem t50 {α : Type} (s : ByteArray) (κ : T → Option α) : KG0.pure 50 [strT s] κ = kwR (fun w => eqS w s) κ kwords := by kernel_rfl
def keyword (s : ByteArray) : Bool := kwords.any fun w => eqS s ⟨w.toArray⟩
theorem kwR_eq {α : Type} (eq : ByteArray → Bool) (κ : T → Option α) : ∀ l, kwR eq κ l = κ (boolT (l.any fun w => eq ⟨w.toArray⟩))
  | [] => rfl
  | w :: r => by
    simp only [kwR, List.any_cons]
    rw [kwR_eq eq κ r]
    cases eq ⟨w.toArray⟩ <;> simp [br]
theorem eqS_comm (a b : ByteArray) : eqS a b = eqS b a := BEq.comm
theorem s48 (s : ByteArray) : Says E1 48 [strT s] (boolT (keyword s)) := nosum_told.run nokeep 5000 ((t48 s some).trans (kwR_eq _ _ _))
theorem s50 (s : ByteArray) : Says E1 50 [strT s] (boolT (keyword s)) := by
  refine nosum_told.run nokeep 5000 ((t50 s some).trans ?_)
  have e : (fun w => eqS w s) = (fun w => eqS s w) := funext fun w => eqS_comm w s
  rw [e]
  exact kwR_eq _ _ _

def sumG {α : Type} (f : FuncId) (args : List T) (κ : T → Option α) : Option α := match f, args with
  | 46, [.one (.d (.v (.int .u8 x)))] => κ (boolT (letterI x))
  | 49, [.one (.d (.v (.int .u8 x)))] => κ (boolT (letterI x))
  | 57, [.one (.d (.v (.int .u8 x)))] => κ (boolT (digitI x))
  | 58, [.one (.d (.v (.int .u8 x)))] => κ (boolT (digitI x))
  | 48, [.one (.d (.v (.string s)))] => κ (boolT (keyword s))
  | 50, [.one (.d (.v (.string s)))] => κ (boolT (keyword s))
  | _, _ => none
theorem toldG : Told E1 @sumG := by
  intro α f args κ x h
  unfold sumG at h
  split at h
  · exact ⟨_, h, fun _ => rfl, s46 _⟩
  · exact ⟨_, h, fun _ => rfl, s49 _⟩
  · exact ⟨_, h, fun _ => rfl, s57 _⟩
  · exact ⟨_, h, fun _ => rfl, s58 _⟩
  · exact ⟨_, h, fun _ => rfl, s48 _⟩
  · exact ⟨_, h, fun _ => rfl, s50 _⟩
  · simp at h
theorem t51 {α : Type} (x : Int) (κ : T → Option α) : ((asks @sumG).next E1 nokeep 5000).pure 51 [byteT x] κ =
    br (letterI x) (κ (boolT true)) (br (digitI x) (κ (boolT true)) (κ (boolT (x == 95)))) := by kernel_rfl
theorem s51 (x : Int) : Says E1 51 [byteT x] (boolT (partI x)) := by
  refine toldG.run nokeep 5000 ((t51 x some).trans ?_)
  unfold partI
  cases letterI x <;> cases digitI x <;> simp [br]

/-! ### words: a byte of a text -/
def byteAt (s : ByteArray) (i : Int) : Int := (s.data.toList.getD i.toNat 0).toNat
def at1 {α : Type} (s : ByteArray) (i : Int) (k : Int → Option α) : Option α := br (decide (0 ≤ i)) (br (decide (i < (s.size : Int))) (k (byteAt s i)) none) none

def keep47 (_ r : Nat) : Option Keep := match r with
  | 1 => some { tm := [0, 1], ids := [] }
  | _ => none
def st47 (s : ByteArray) (i : Int) : St := { tm := [strT s, intT .i64 i] ++ List.replicate 28 .any, h := [] }
theorem start47 {α : Type} (fuel : Nat) (s : ByteArray) (i : Int) (κ : T → Option α) : ((asks @sumG).next E1 keep47 fuel).pure 47 [strT s, intT .i64 i] κ = loopAt E1 (asks @sumG) (keep47 47) fuel 47 (pureK κ) fuel (st47 s i) := by kernel_rfl
theorem step47 {α : Type} (fuel m : Nat) (s : ByteArray) (i : Int) (κ : T → Option α) : loopAt E1 (asks @sumG) (keep47 47) fuel 47 (pureK κ) (m + 1) (st47 s i) =
    br (decide (i < (s.size : Int))) (at1 s i fun x => br (letterI x) (loopAt E1 (asks @sumG) (keep47 47) fuel 47 (pureK κ) m (st47 s (IntKind.i64.wrap (i + 1))))
      (at1 s i fun x => br (digitI x) (loopAt E1 (asks @sumG) (keep47 47) fuel 47 (pureK κ) m (st47 s (IntKind.i64.wrap (i + 1))))
        (at1 s i fun x => br (x == 95) (loopAt E1 (asks @sumG) (keep47 47) fuel 47 (pureK κ) m (st47 s (IntKind.i64.wrap (i + 1)))) (κ (intT .i64 i))))) (κ (intT .i64 i)) := by kernel_rfl

def bytes (s : ByteArray) : List UInt8 := s.data.toList
theorem bytes_len (s : ByteArray) : (bytes s).length = s.size := by simp [bytes]
theorem byteAt_eq {s : ByteArray} {k : Nat} (h : k < (bytes s).length) : byteAt s (k : Int) = ((bytes s)[k].toNat : Int) := by
  unfold byteAt
  have : ((k : Int)).toNat = k := by omega
  rw [this]
  change (((bytes s).getD k 0).toNat : Int) = _
  simp [List.getD, h]
theorem at1_eq {α : Type} {s : ByteArray} {k : Nat} (h : k < (bytes s).length) (f : Int → Option α) : at1 s k f = f ((bytes s)[k].toNat : Int) := by
  have h1 : decide ((0 : Int) ≤ (k : Int)) = true := by simp
  have h2 : decide ((k : Int) < (s.size : Int)) = true := by rw [bytes_len] at h; simp; omega
  unfold at1
  simp only [h1, h2, br]
  rw [byteAt_eq h]
def wordLen : List UInt8 → Nat
  | [] => 0
  | x :: r => match partI (x.toNat : Int) with
    | true => 1 + wordLen r
    | false => 0
def allPart (l : List UInt8) : Bool := l.all fun x => partI (x.toNat : Int)
theorem wordLen_all : ∀ l, (wordLen l == l.length) = allPart l
  | [] => rfl
  | x :: r => by
    have := wordLen_all r
    simp only [wordLen, allPart, List.all_cons, List.length_cons] at this ⊢
    cases partI (x.toNat : Int) with
    | false => simp
    | true =>
      simp only [Bool.true_and, ← this]
      rw [Bool.eq_iff_iff]
      simp
      omega
theorem wordLen_le : ∀ l, wordLen l ≤ l.length
  | [] => Nat.le_refl _
  | x :: r => by
    have := wordLen_le r
    simp only [wordLen, List.length_cons]
    split <;> omega
theorem br_part {α : Type} (x : Int) (X Y : Option α) : br (letterI x) X (br (digitI x) X (br (x == 95) X Y)) = br (partI x) X Y := by
  unfold partI
  cases letterI x <;> cases digitI x <;> cases x == 95 <;> rfl
theorem rounds47 {α : Type} (fuel : Nat) (s : ByteArray) (κ : T → Option α) (hs : s.size < 1073741824) : ∀ (m k : Nat), k ≤ s.size → s.size < k + m →
    loopAt E1 (asks @sumG) (keep47 47) fuel 47 (pureK κ) m (st47 s k) = κ (intT .i64 ((k + wordLen ((bytes s).drop k) : Nat) : Int))
  | 0, k, h1, h2 => by omega
  | m + 1, k, h1, h2 => by
    rw [step47]
    by_cases hk : k < s.size
    · have c1 : decide ((k : Int) < (s.size : Int)) = true := by simp; omega
      have hb : k < (bytes s).length := by rw [bytes_len]; exact hk
      have ih := rounds47 fuel s κ hs m (k + 1) (by omega) (by omega)
      rw [at1_eq hb, at1_eq hb, at1_eq hb, wrap_id (by omega) (by omega), List.drop_eq_getElem_cons hb]
      have e : (k : Int) + 1 = ((k + 1 : Nat) : Int) := by omega
      rw [e, ih, br_part]
      simp only [c1, wordLen]
      cases partI ((bytes s)[k].toNat : Int) with
      | true =>
        simp only [br]
        rw [show k + 1 + wordLen ((bytes s).drop (k + 1)) = k + (1 + wordLen ((bytes s).drop (k + 1))) by omega]
      | false => rfl
    · have c1 : decide ((k : Int) < (s.size : Int)) = false := by simp; omega
      have e : (bytes s).drop k = [] := List.drop_eq_nil_of_le (by rw [bytes_len]; omega)
      simp only [c1, br, e, wordLen, Nat.add_zero]
theorem s47 (s : ByteArray) (hs : s.size ≤ 4000) : Says E1 47 [strT s, intT .i64 0] (intT .i64 ((wordLen (bytes s) : Nat) : Int)) := by
  refine toldG.run keep47 5000 ((start47 5000 s 0 some).trans ?_)
  have := rounds47 5000 s some (by omega) 5000 0 (by omega) (by omega)
  simpa using this
def sum47 {α : Type} (f : FuncId) (args : List T) (κ : T → Option α) : Option α := match f, args with
  | 47, [.one (.d (.v (.string s))), .one (.d (.v (.int .i64 i)))] => br (decide (i = 0) && decide (s.size ≤ 4000)) (κ (intT .i64 ((wordLen (bytes s) : Nat) : Int))) none
  | 51, [.one (.d (.v (.int .u8 x)))] => κ (boolT (partI x))
  | _, _ => none
theorem told47 : Told E1 @sum47 := by
  intro α f args κ x hx
  unfold sum47 at hx
  split at hx
  · rename_i s i
    cases hb : decide (i = 0) && decide (s.size ≤ 4000) with
    | false => rw [hb] at hx; simp [br] at hx
    | true =>
      rw [hb] at hx
      refine ⟨_, hx, fun κ' => by simp [sum47, hb, br], ?_⟩
      simp only [Bool.and_eq_true, decide_eq_true_eq] at hb
      obtain ⟨rfl, hb⟩ := hb
      exact s47 s hb
  · exact ⟨_, hx, fun _ => rfl, s51 _⟩
  · simp at hx
def has47 (f : FuncId) : Bool := match f with
  | 47 => true
  | 51 => true
  | _ => false
def sumH {α : Type} (f : FuncId) (args : List T) (κ : T → Option α) : Option α := orSum has47 @sum47 @sumG f args κ
theorem toldH : Told E1 @sumH := told47.or toldG has47

/-! ### identifiers -/
def identB (s : ByteArray) : Bool := !eqS s ⟨#[]⟩ && (decide (s.size ≤ 32) && (letterI (byteAt s 0) && (allPart (bytes s) && !keyword s)))
theorem t38 {α : Type} (s : ByteArray) (κ : T → Option α) : ((asks @sumH).next E1 nokeep 5000).pure 38 [strT s] κ =
    br (!eqS s ⟨#[]⟩) (br (decide ((s.size : Int) ≤ 32)) (at1 s 0 fun x => br (letterI x) (br (decide (s.size ≤ 4000)) (br (((wordLen (bytes s) : Nat) : Int) == (s.size : Int)) (κ (boolT (!keyword s))) (κ (boolT false))) none) (κ (boolT false))) (κ (boolT false))) (κ (boolT false)) := by kernel_rfl
def keep39 (_ r : Nat) : Option Keep := match r with
  | 4 => some { tm := [0, 3], ids := [] }
  | _ => none
def st39 (s : ByteArray) (i : Int) : St := { tm := [strT s, .any, .any, intT .i64 i] ++ List.replicate 28 .any, h := [] }
theorem start39 {α : Type} (fuel : Nat) (s : ByteArray) (κ : T → Option α) : ((asks @sumH).next E1 keep39 fuel).pure 39 [strT s] κ =
    br (eqS s ⟨#[]⟩) (κ (boolT false)) (br (decide ((s.size : Int) > 32)) (κ (boolT false)) (at1 s 0 fun x => br (!letterI x) (κ (boolT false)) (br (keyword s) (κ (boolT false)) (loopAt E1 (asks @sumH) (keep39 39) fuel 39 (pureK κ) fuel (st39 s 0))))) := by kernel_rfl
theorem step39 {α : Type} (fuel m : Nat) (s : ByteArray) (i : Int) (κ : T → Option α) : loopAt E1 (asks @sumH) (keep39 39) fuel 39 (pureK κ) (m + 1) (st39 s i) =
    br (decide (i < (s.size : Int))) (at1 s i fun x => br (!partI x) (κ (boolT false)) (loopAt E1 (asks @sumH) (keep39 39) fuel 39 (pureK κ) m (st39 s (IntKind.i64.wrap (i + 1))))) (κ (boolT true)) := by kernel_rfl
end Go.Ex
