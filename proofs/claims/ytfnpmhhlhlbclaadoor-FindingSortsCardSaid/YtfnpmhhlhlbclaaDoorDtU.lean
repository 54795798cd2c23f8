import Derived.Test.YtfnpmhhlhlbclaaDoorDtT
namespace Go.Ex
open Go.Proofs
/-! ### total orders, by three answers -/
structure Ord3 {α : Type} (c : α → α → Int) : Prop where
  range : ∀ a b, c a b = -1 ∨ c a b = 0 ∨ c a b = 1
  anti : ∀ a b, c b a = - c a b
  trans : ∀ a b d, c a b ≤ 0 → c b d ≤ 0 → c a d ≤ 0
theorem Ord3.refl {α : Type} {c : α → α → Int} (h : Ord3 c) (a : α) : c a a = 0 := by
  have := h.anti a a
  omega
theorem Ord3.eq_trans {α : Type} {c : α → α → Int} (h : Ord3 c) {a b d : α} (h1 : c a b = 0) (h2 : c b d = 0) : c a d = 0 := by
  have t1 := h.trans a b d (by omega) (by omega)
  have t2 := h.trans d b a (by rw [h.anti b d]; omega) (by rw [h.anti a b]; omega)
  rw [h.anti a d] at t2
  omega
/-- below, and not equal -/
theorem Ord3.lt_of {α : Type} {c : α → α → Int} (h : Ord3 c) {a b d : α} (h1 : c a b ≤ 0) (h2 : c b d ≤ 0) (h3 : c a b < 0 ∨ c b d < 0) : c a d < 0 := by
  have t1 := h.trans a b d h1 h2
  rcases h.range a d with e | e | e
  · omega
  · exfalso
    have e' : c d a ≤ 0 := by rw [h.anti a d]; omega
    have t2 := h.trans d a b e' h1
    have t3 := h.trans b d a h2 e'
    rw [h.anti b d] at t2
    rw [h.anti a b] at t3
    omega
  · omega
/-- the second where the first is even -/
def thenC {α : Type} (c d : α → α → Int) (a b : α) : Int := match decide (c a b = 0) with
  | false => c a b
  | true => d a b
theorem thenC_ne {α : Type} {c d : α → α → Int} {a b : α} (h : c a b ≠ 0) : thenC c d a b = c a b := by simp [thenC, h]
theorem thenC_eq {α : Type} {c d : α → α → Int} {a b : α} (h : c a b = 0) : thenC c d a b = d a b := by simp [thenC, h]
theorem Ord3.then {α : Type} {c d : α → α → Int} (h : Ord3 c) (k : Ord3 d) : Ord3 (thenC c d) where
  range a b := by
    by_cases e : c a b = 0
    · rw [thenC_eq e]; exact k.range a b
    · rw [thenC_ne e]; exact h.range a b
  anti a b := by
    by_cases e : c a b = 0
    · rw [thenC_eq e, thenC_eq (by rw [h.anti a b, e]; rfl)]; exact k.anti a b
    · rw [thenC_ne e, thenC_ne (by rw [h.anti a b]; omega)]; exact h.anti a b
  trans a b e h1 h2 := by
    by_cases e1 : c a b = 0
    · by_cases e2 : c b e = 0
      · rw [thenC_eq e1] at h1
        rw [thenC_eq e2] at h2
        rw [thenC_eq (h.eq_trans e1 e2)]
        exact k.trans a b e h1 h2
      · rw [thenC_ne e2] at h2
        have := h.lt_of (a := a) (b := b) (d := e) (by omega) h2 (by omega)
        rw [thenC_ne (by omega)]
        omega
    · rw [thenC_ne e1] at h1
      by_cases e2 : c b e = 0
      · have := h.lt_of (a := a) (b := b) (d := e) h1 (by omega) (by omega)
        rw [thenC_ne (by omega)]
        omega
      · rw [thenC_ne e2] at h2
        have := h.lt_of (a := a) (b := b) (d := e) h1 h2 (by omega)
        rw [thenC_ne (by omega)]
        omega
theorem Ord3.on {α β : Type} {c : α → α → Int} (h : Ord3 c) (f : β → α) : Ord3 fun x y => c (f x) (f y) where
  range _ _ := h.range _ _
  anti _ _ := h.anti _ _
  trans _ _ _ := h.trans _ _ _
theorem Ord3.congr {α : Type} {c d : α → α → Int} (h : Ord3 c) (e : ∀ a b, d a b = c a b) : Ord3 d where
  range a b := by rw [e]; exact h.range a b
  anti a b := by rw [e, e]; exact h.anti a b
  trans a b x := by rw [e, e, e]; exact h.trans a b x

theorem ord_int : Ord3 cmpI where
  range a b := by
    unfold cmpI
    by_cases h1 : a < b <;> by_cases h2 : b < a <;> simp [h1, h2]
  anti a b := by
    unfold cmpI
    by_cases h1 : a < b <;> by_cases h2 : b < a <;> simp [h1, h2]
    omega
  trans a b d := by
    unfold cmpI
    by_cases h1 : a < b <;> by_cases h2 : b < a <;> by_cases h3 : b < d <;> by_cases h4 : d < b <;> by_cases h5 : a < d <;> by_cases h6 : d < a <;> simp [h1, h2, h3, h4, h5, h6] <;> omega

/-- lists, as in a dictionary -/
def lexL {α : Type} (c : α → α → Int) : List α → List α → Int
  | [], [] => 0
  | [], _ :: _ => -1
  | _ :: _, [] => 1
  | x :: r, y :: s => match c x y != 0 with
    | true => c x y
    | false => lexL c r s
theorem Ord3.lex {α : Type} {c : α → α → Int} (h : Ord3 c) : Ord3 (lexL c) := by
  have range : ∀ a b, lexL c a b = -1 ∨ lexL c a b = 0 ∨ lexL c a b = 1 := by
    intro a
    induction a with
    | nil => intro b; cases b <;> simp [lexL]
    | cons x r ih =>
      intro b
      cases b with
      | nil => simp [lexL]
      | cons y s =>
        simp only [lexL]
        by_cases e : c x y = 0
        · simp only [e, bne_self_eq_false]; exact ih s
        · rw [bne0 e]; exact h.range _ _
  have anti : ∀ a b, lexL c b a = - lexL c a b := by
    intro a
    induction a with
    | nil => intro b; cases b <;> simp [lexL]
    | cons x r ih =>
      intro b
      cases b with
      | nil => simp [lexL]
      | cons y s =>
        have hx := h.anti x y
        simp only [lexL]
        by_cases e : c x y = 0
        · have e' : c y x = 0 := by omega
          simp only [e, e', bne_self_eq_false]; exact ih s
        · rw [bne0 e, bne0 (by omega : ¬ c y x = 0)]; exact hx
  refine ⟨range, anti, ?_⟩
  intro a
  induction a with
  | nil => intro b d h1 h2; cases b <;> cases d <;> simp [lexL] at h1 h2 ⊢
  | cons x r ih =>
    intro b d h1 h2
    cases b with
    | nil => simp [lexL] at h1
    | cons y s =>
      cases d with
      | nil => simp [lexL] at h2
      | cons z t =>
        simp only [lexL] at h1 h2 ⊢
        by_cases e1 : c x y = 0
        · by_cases e2 : c y z = 0
          · simp only [e1, bne_self_eq_false] at h1
            simp only [e2, bne_self_eq_false] at h2
            simp only [h.eq_trans e1 e2, bne_self_eq_false]
            exact ih s t h1 h2
          · rw [bne0 e2] at h2
            have := h.lt_of (a := x) (b := y) (d := z) (by omega) h2 (by simp only at h2; omega)
            rw [bne0 (by omega)]
            simp only
            omega
        · rw [bne0 e1] at h1
          simp only at h1
          by_cases e2 : c y z = 0
          · have := h.lt_of (a := x) (b := y) (d := z) h1 (by omega) (by omega)
            rw [bne0 (by omega)]
            simp only
            omega
          · rw [bne0 e2] at h2
            simp only at h2
            have := h.lt_of (a := x) (b := y) (d := z) h1 h2 (by omega)
            rw [bne0 (by omega)]
            simp only
            omega
/-- bytes -/
def cmpB (a b : List UInt8) : Int := lexL (fun x y : UInt8 => cmpI x.toNat y.toNat) a b
theorem ord_bytes : Ord3 cmpB := (ord_int.on fun x : UInt8 => (x.toNat : Int)).lex
theorem cmpB_cons (x y : UInt8) (r s : List UInt8) : cmpB (x :: r) (y :: s) = match cmpI x.toNat y.toNat != 0 with
    | true => cmpI x.toNat y.toNat
    | false => cmpB r s := rfl
theorem cmpB_eq {x y : UInt8} {r s : List UInt8} (h : cmpI x.toNat y.toNat = 0) : cmpB (x :: r) (y :: s) = cmpB r s := by rw [cmpB_cons]; simp only [h, bne_self_eq_false]
theorem cmpB_ne {x y : UInt8} {r s : List UInt8} (h : ¬ cmpI x.toNat y.toNat = 0) : cmpB (x :: r) (y :: s) = cmpI x.toNat y.toNat := by rw [cmpB_cons, bne0 h]
theorem less_eq : ∀ a b : List UInt8, Op.bytesLess a b = decide (cmpB a b < 0)
  | [], [] => rfl
  | [], _ :: _ => rfl
  | _ :: _, [] => rfl
  | x :: r, y :: s => by
    have ih := less_eq r s
    simp only [Op.bytesLess]
    by_cases h1 : x < y
    · have h1' : x.toNat < y.toNat := h1
      have e : cmpI x.toNat y.toNat = -1 := by unfold cmpI; simp [h1']
      rw [cmpB_ne (by omega), e]
      simp [h1]
    · have h1' : ¬ x.toNat < y.toNat := h1
      by_cases h2 : x = y
      · subst h2
        have e : cmpI x.toNat x.toNat = 0 := ord_int.refl _
        rw [cmpB_eq e]
        simp [ih]
      · have h3 : y.toNat < x.toNat := by
          have : x.toNat ≠ y.toNat := fun e => h2 (UInt8.toNat_inj.1 e)
          omega
        have e : cmpI x.toNat y.toNat = 1 := by
          unfold cmpI
          have a1 : ¬ ((x.toNat : Int) < (y.toNat : Int)) := by omega
          have a2 : ((y.toNat : Int) < (x.toNat : Int)) := by omega
          simp [a1, a2]
        rw [cmpB_ne (by omega), e]
        simp [h1, h2]
theorem cmpB_zero : ∀ a b : List UInt8, cmpB a b = 0 ↔ a = b
  | [], [] => by simp [cmpB, lexL]
  | [], _ :: _ => by simp [cmpB, lexL]
  | _ :: _, [] => by simp [cmpB, lexL]
  | x :: r, y :: s => by
    have ih := cmpB_zero r s
    simp only [List.cons.injEq]
    by_cases e : cmpI x.toNat y.toNat = 0
    · rw [cmpB_eq e, ih]
      have : x = y := by
        apply UInt8.toNat_inj.1
        unfold cmpI at e
        by_cases a1 : (x.toNat : Int) < (y.toNat : Int) <;> by_cases a2 : (y.toNat : Int) < (x.toNat : Int) <;> simp [a1, a2] at e <;> omega
      simp [this]
    · rw [cmpB_ne e]
      constructor
      · intro h; exact absurd h e
      · rintro ⟨rfl, _⟩; exact absurd (ord_int.refl _) e
theorem cmpS_eq (a b : ByteArray) : cmpS a b = cmpB a.toList b.toList := by
  unfold cmpS ltS eqS
  rw [less_eq]
  have hz := cmpB_zero a.toList b.toList
  rcases ord_bytes.range a.toList b.toList with e | e | e
  · simp [e]
  · have c : (a.toList == b.toList) = true := by simpa using hz.1 e
    rw [c, e]
    rfl
  · have h0 : ¬ a.toList = b.toList := fun h => by rw [hz.2 h] at e; omega
    have c : (a.toList == b.toList) = false := by simpa using h0
    rw [c, e]
    rfl
theorem ord_str : Ord3 cmpS := (ord_bytes.on (·.toList)).congr cmpS_eq
theorem ord_place : Ord3 cmpP := by
  refine ((ord_str.on Pl.c).then ((ord_str.on Pl.m).then (ord_int.on Pl.n))).congr fun p q => ?_
  unfold cmpP or3 thenC
  rfl
theorem ord_path : Ord3 cmpL := by
  refine ord_place.lex.congr fun a => ?_
  induction a with
  | nil => intro b; cases b <;> rfl
  | cons x r ih =>
    intro b
    cases b with
    | nil => rfl
    | cons y s =>
      simp only [cmpL, lexL]
      rw [ih s]
      cases cmpP x y != 0 <;> rfl
theorem ord_finding : Ord3 cmpF := by
  refine ((ord_place.on Fi.at').then ((ord_int.on Fi.kind).then ((ord_str.on Fi.what).then (ord_path.on Fi.path)))).congr fun f g => ?_
  unfold cmpF or4 or3 thenC
  rfl
end Go.Ex
