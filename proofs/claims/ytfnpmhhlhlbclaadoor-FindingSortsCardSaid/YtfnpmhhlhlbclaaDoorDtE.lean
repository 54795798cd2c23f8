import Derived.Test.YtfnpmhhlhlbclaaDoorDtD
import Derived.Test.YtfnpmhhlhlbclaaDoorDtI
import Derived.Lib.ItoaLen
namespace Go.Ex
open Go.Proofs
set_option maxRecDepth 100000
/-! ### numerals -/
def itoaB (n : Int) : ByteArray := ⟨(Lib.itoa n).toArray⟩
def int64 (n : Int) : Bool := decide (-9223372036854775808 ≤ n) && decide (n ≤ 9223372036854775807)
def addS {α : Type} (p q : ByteArray) (κ : ByteArray → Option α) : Option α := br (decide (p.size + q.size ≤ 9223372036854775807)) (κ (p ++ q)) none
/-- one byte, as text -/
def dig (n : Int) : ByteArray := pushAll [IntKind.u8.wrap (IntKind.i64.wrap (48 + n))]

def sum28 (g : Int → Bool) {α : Type} (f : FuncId) (args : List T) (κ : T → Option α) : Option α := match f, args with
  | 28, [.one (.d (.v (.int .i64 n)))] => br (g n) (κ (strT (itoaB n))) none
  | _, _ => none
theorem t28 {α : Type} (b : Int → Bool) (n : Int) (κ : T → Option α) : ((asks (@sum28 b)).next E1 nokeep 5000).pure 28 [intT .i64 n] κ =
    br (decide (n < 0))
      (br (IntKind.i64.wrap (n.tdiv 10) == 0)
        (addS ⟨#[45]⟩ (dig (IntKind.i64.wrap (0 - n.tmod 10))) fun r => κ (strT r))
        (br (b (IntKind.i64.wrap (n.tdiv 10))) (addS (itoaB (IntKind.i64.wrap (n.tdiv 10))) (dig (IntKind.i64.wrap (0 - n.tmod 10))) fun r => κ (strT r)) none))
      (br (decide (n < 10)) (κ (strT (dig (n.tmod 10))))
        (br (b (IntKind.i64.wrap (n.tdiv 10))) (addS (itoaB (IntKind.i64.wrap (n.tdiv 10))) (dig (n.tmod 10)) fun r => κ (strT r)) none)) := by kernel_rfl
theorem told28 {g : Int → Bool} (h : ∀ n, g n = true → Says E1 28 [intT .i64 n] (strT (itoaB n))) : Told E1 (@sum28 g) := by
  intro α f args κ x hx
  unfold sum28 at hx
  split at hx
  · rename_i n
    cases hb : g n with
    | false => rw [hb] at hx; simp [br] at hx
    | true =>
      rw [hb] at hx
      exact ⟨_, hx, fun κ' => by simp [sum28, hb, br], h n hb⟩
  · simp at hx

theorem dig_eq {d : Int} (h0 : 0 ≤ d) (h1 : d < 10) : dig d = ⟨#[UInt8.ofNat (48 + d.toNat)]⟩ := by
  obtain ⟨k, rfl⟩ : ∃ k : Nat, d = k := ⟨d.toNat, by omega⟩
  have hk : k < 10 := by omega
  unfold dig
  rw [wrap_id (by omega) (by omega)]
  have e : IntKind.u8.wrap (48 + (k : Int)) = 48 + (k : Int) := by
    rcases (by omega : k = 0 ∨ k = 1 ∨ k = 2 ∨ k = 3 ∨ k = 4 ∨ k = 5 ∨ k = 6 ∨ k = 7 ∨ k = 8 ∨ k = 9) with h | h | h | h | h | h | h | h | h | h <;> subst h <;> decide
  rw [e]
  simp only [pushAll, List.foldl_cons, List.foldl_nil]
  have : (48 + (k : Int)).toNat = 48 + (k : Int).toNat := by omega
  rw [this]
  rfl

theorem app_one (l : List UInt8) (x : UInt8) : (⟨l.toArray⟩ : ByteArray) ++ ⟨#[x]⟩ = ⟨(l ++ [x]).toArray⟩ := by
  apply ByteArray.ext
  simp [ByteArray.data_append]
theorem one_app (l : List UInt8) (x : UInt8) : (⟨#[x]⟩ : ByteArray) ++ ⟨l.toArray⟩ = ⟨(x :: l).toArray⟩ := by
  apply ByteArray.ext
  simp [ByteArray.data_append]
theorem itoaB_size {n : Int} (h0 : -9223372036854775808 ≤ n) (h1 : n ≤ 9223372036854775807) : (itoaB n).size ≤ 21 := Lib.itoa_length_le n h0 h1
theorem itoaB_small {n : Int} (h0 : 0 ≤ n) (h1 : n < 10) : itoaB n = dig n := by
  obtain ⟨k, rfl⟩ : ∃ k : Nat, n = k := ⟨n.toNat, by omega⟩
  rw [dig_eq (by omega) (by omega)]
  unfold itoaB
  rw [Lib.itoa_nonneg, Lib.decDigits_one (by omega)]
  simp
theorem itoaB_big {n : Int} (h0 : 10 ≤ n) : itoaB n = itoaB (n / 10) ++ dig (n % 10) := by
  obtain ⟨k, rfl⟩ : ∃ k : Nat, n = k := ⟨n.toNat, by omega⟩
  rw [dig_eq (by omega) (by omega)]
  unfold itoaB
  have e : (k : Int) / 10 = ((k / 10 : Nat) : Int) := by omega
  rw [Lib.itoa_nonneg, e, Lib.itoa_nonneg, Lib.decDigits, dif_neg (by omega), app_one]
  have e2 : ((k : Int) % 10).toNat = k % 10 := by omega
  rw [e2]
theorem itoaB_neg1 {n : Int} (h0 : -10 < n) (h1 : n < 0) : itoaB n = ⟨#[45]⟩ ++ dig (-n) := by
  obtain ⟨k, rfl⟩ : ∃ k : Nat, n = -(k : Int) := ⟨n.natAbs, by omega⟩
  rw [dig_eq (by omega) (by omega)]
  unfold itoaB
  rw [Lib.itoa_neg k (by omega), Lib.decDigits_one (by omega)]
  have := one_app [UInt8.ofNat (48 + k)] 45
  rw [← this]
  simp
theorem itoaB_neg {n : Int} (h0 : n ≤ -10) : itoaB n = itoaB (-(-n / 10)) ++ dig (-n % 10) := by
  obtain ⟨k, rfl⟩ : ∃ k : Nat, n = -(k : Int) := ⟨n.natAbs, by omega⟩
  rw [dig_eq (by omega) (by omega)]
  unfold itoaB
  have e : -(- -(k : Int) / 10) = -((k / 10 : Nat) : Int) := by omega
  rw [Lib.itoa_neg k (by omega), e, Lib.itoa_neg (k / 10) (by omega), Lib.decDigits, dif_neg (by omega), app_one]
  have e2 : ((- -(k : Int)) % 10).toNat = k % 10 := by omega
  rw [e2]
  rfl

theorem tdiv_neg' {n : Int} (h : n < 0) : n.tdiv 10 = -(-n / 10) := by
  obtain ⟨k, rfl⟩ : ∃ k : Nat, n = -(k : Int) := ⟨n.natAbs, by omega⟩
  rw [Int.neg_tdiv, Int.tdiv_eq_ediv_of_nonneg (by omega)]
  omega
theorem tmod_neg' {n : Int} (h : n < 0) : n.tmod 10 = -(-n % 10) := by
  have h1 := Int.mul_tdiv_add_tmod n 10
  rw [tdiv_neg' h] at h1
  omega
theorem tdiv_pos' {n : Int} (h : 0 ≤ n) : n.tdiv 10 = n / 10 := Int.tdiv_eq_ediv_of_nonneg h
theorem tmod_pos' {n : Int} (h : 0 ≤ n) : n.tmod 10 = n % 10 := by
  have h1 := Int.mul_tdiv_add_tmod n 10
  rw [tdiv_pos' h] at h1
  omega
theorem tdiv_abs (n : Int) : (n.tdiv 10).natAbs = n.natAbs / 10 := by
  by_cases h : n < 0
  · rw [tdiv_neg' h]; omega
  · rw [tdiv_pos' (by omega)]; omega

theorem digits_step {g : Int → Bool} (h : ∀ n, g n = true → Says E1 28 [intT .i64 n] (strT (itoaB n))) (n : Int) (h0 : -9223372036854775808 ≤ n) (h1 : n ≤ 9223372036854775807)
    (hg : n ≤ -10 ∨ 10 ≤ n → g (n.tdiv 10) = true) : Says E1 28 [intT .i64 n] (strT (itoaB n)) := by
  refine Told.run (sum := @sum28 g) (told28 h) nokeep 5000 ((t28 g n some).trans ?_)
  have size1 : ∀ d, 0 ≤ d → d < 10 → (dig d).size = 1 := fun d a b => by rw [dig_eq a b]; rfl
  by_cases hn : n < 0
  · have e1 : n.tdiv 10 = -(-n / 10) := tdiv_neg' hn
    have e2 : n.tmod 10 = -(-n % 10) := tmod_neg' hn
    have c1 : decide (n < 0) = true := by simpa using hn
    rw [c1, e1, e2, wrap_id (n := -(-n / 10)) (by omega) (by omega), wrap_id (n := 0 - -(-n % 10)) (by omega) (by omega)]
    have e3 : (0 : Int) - -(-n % 10) = -n % 10 := by omega
    rw [e3]
    by_cases hb : -10 < n
    · have c2 : (-(-n / 10) == 0) = true := by simp; omega
      have e4 : -n % 10 = -n := by omega
      have hs : decide ((⟨#[45]⟩ : ByteArray).size + (dig (-n)).size ≤ 9223372036854775807) = true := by rw [size1 _ (by omega) (by omega)]; decide
      simp only [c2, br, addS, e4, hs]
      rw [itoaB_neg1 hb hn]
    · have c2 : (-(-n / 10) == 0) = false := by simp; omega
      have c3 := hg (.inl (by omega))
      rw [e1] at c3
      have hs : decide ((itoaB (-(-n / 10))).size + (dig (-n % 10)).size ≤ 9223372036854775807) = true := by
        rw [size1 _ (by omega) (by omega)]
        have := itoaB_size (n := -(-n / 10)) (by omega) (by omega)
        simp; omega
      simp only [c2, br, addS, c3, hs]
      rw [itoaB_neg (n := n) (by omega)]
  · have e1 : n.tdiv 10 = n / 10 := tdiv_pos' (by omega)
    have e2 : n.tmod 10 = n % 10 := tmod_pos' (by omega)
    have c1 : decide (n < 0) = false := by simpa using hn
    rw [c1, e1, e2, wrap_id (n := n / 10) (by omega) (by omega)]
    by_cases hb : n < 10
    · have c2 : decide (n < 10) = true := by simpa using hb
      have e4 : n % 10 = n := by omega
      simp only [c2, br, e4]
      rw [itoaB_small (by omega) hb]
    · have c2 : decide (n < 10) = false := by simpa using hb
      have c3 := hg (.inr (by omega))
      rw [e1] at c3
      have hs : decide ((itoaB (n / 10)).size + (dig (n % 10)).size ≤ 9223372036854775807) = true := by
        rw [size1 _ (by omega) (by omega)]
        have := itoaB_size (n := n / 10) (by omega) (by omega)
        simp; omega
      simp only [c2, br, addS, c3, hs]
      rw [itoaB_big (n := n) (by omega)]

theorem digits_up : ∀ (b : Nat) (n : Int), -9223372036854775808 ≤ n → n ≤ 9223372036854775807 → n.natAbs < 10 ^ b → Says E1 28 [intT .i64 n] (strT (itoaB n))
  | 0, n, h0, h1, h => digits_step (g := fun _ => false) (fun _ h => by simp at h) n h0 h1 (fun hn => by simp at h; omega)
  | b + 1, n, h0, h1, h =>
    digits_step (g := fun n => decide (-9223372036854775808 ≤ n) && decide (n ≤ 9223372036854775807) && decide (n.natAbs < 10 ^ b))
      (fun n hn => by simp at hn; exact digits_up b n hn.1.1 hn.1.2 hn.2) n h0 h1 (fun hn => by
        rw [Nat.pow_succ] at h
        have e : (n.tdiv 10).natAbs = n.natAbs / 10 := tdiv_abs n
        have e' : -9223372036854775808 ≤ n.tdiv 10 ∧ n.tdiv 10 ≤ 9223372036854775807 := by omega
        simp only [Bool.and_eq_true, decide_eq_true_eq]
        refine ⟨e', ?_⟩
        rw [e]
        omega)
theorem digits_says (n : Int) (h0 : -9223372036854775808 ≤ n) (h1 : n ≤ 9223372036854775807) : Says E1 28 [intT .i64 n] (strT (itoaB n)) := digits_up 20 n h0 h1 (by omega)
end Go.Ex
