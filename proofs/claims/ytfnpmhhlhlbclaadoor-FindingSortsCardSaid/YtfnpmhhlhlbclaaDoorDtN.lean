import Derived.Test.YtfnpmhhlhlbclaaDoorDtM
namespace Go.Ex
open Go.Proofs
set_option maxRecDepth 100000
/-! ### keys of valid findings -/
theorem split_at {x : UInt8} : ∀ {l l' r r' : List UInt8}, x ∉ l → x ∉ l' → l ++ x :: r = l' ++ x :: r' → l = l' ∧ r = r'
  | [], [], r, r', _, _, h => by simpa using h
  | [], y :: l', r, r', _, h2, h => by
    simp only [List.nil_append, List.cons_append, List.cons.injEq] at h
    exact absurd (by rw [h.1]; exact List.mem_cons_self) h2
  | y :: l, [], r, r', h1, _, h => by
    simp only [List.nil_append, List.cons_append, List.cons.injEq] at h
    exact absurd (by rw [← h.1]; exact List.mem_cons_self) h1
  | y :: l, z :: l', r, r', h1, h2, h => by
    simp only [List.cons_append, List.cons.injEq] at h
    obtain ⟨a, b⟩ := split_at (fun hm => h1 (List.mem_cons_of_mem _ hm)) (fun hm => h2 (List.mem_cons_of_mem _ hm)) h.2
    exact ⟨by rw [h.1, a], b⟩
def valD (l : List UInt8) : Nat := l.foldl (fun a x => a * 10 + (x.toNat - 48)) 0
theorem dg_nat {d : Nat} (h : d < 10) : (UInt8.ofNat (48 + d)).toNat = 48 + d := by
  rw [UInt8.toNat_ofNat']
  omega
theorem valD_dec : ∀ u, valD (Lib.decDigits u) = u := by
  intro u
  induction u using Nat.strongRecOn with
  | _ u ih =>
    rw [Lib.decDigits]
    split
    · rename_i h
      simp only [valD, List.foldl_cons, List.foldl_nil, dg_nat h]
      omega
    · rename_i h
      have := ih (u / 10) (by omega)
      simp only [valD, List.foldl_append, List.foldl_cons, List.foldl_nil] at this ⊢
      rw [this, dg_nat (by omega)]
      omega
theorem dec_bytes : ∀ u, ∀ x ∈ Lib.decDigits u, 48 ≤ x.toNat ∧ x.toNat ≤ 57 := by
  intro u
  induction u using Nat.strongRecOn with
  | _ u ih =>
    intro x hx
    rw [Lib.decDigits] at hx
    split at hx
    · rename_i h
      simp only [List.mem_singleton] at hx
      subst hx
      rw [dg_nat h]
      omega
    · rename_i h
      simp only [List.mem_append, List.mem_singleton] at hx
      rcases hx with hx | hx
      · exact ih (u / 10) (by omega) x hx
      · subst hx
        rw [dg_nat (by omega)]
        omega
theorem itoa_inj {n m : Int} (hn : 0 ≤ n) (hm : 0 ≤ m) (h : Lib.itoa n = Lib.itoa m) : n = m := by
  obtain ⟨a, rfl⟩ : ∃ k : Nat, n = k := ⟨n.toNat, by omega⟩
  obtain ⟨b, rfl⟩ : ∃ k : Nat, m = k := ⟨m.toNat, by omega⟩
  rw [Lib.itoa_nonneg, Lib.itoa_nonneg] at h
  have := congrArg valD h
  rw [valD_dec, valD_dec] at this
  rw [this]
theorem itoa_no {n : Int} (hn : 0 ≤ n) : (32 : UInt8) ∉ Lib.itoa n := by
  obtain ⟨a, rfl⟩ : ∃ k : Nat, n = k := ⟨n.toNat, by omega⟩
  rw [Lib.itoa_nonneg]
  intro h
  have := dec_bytes a _ h
  revert this
  decide
theorem ident_no {s : ByteArray} (h : identB s = true) {x : UInt8} (hx : partI (x.toNat : Int) = false) : x ∉ bytes s := by
  simp only [identB, Bool.and_eq_true] at h
  have h := h.2.2.2.1
  simp only [allPart, List.all_eq_true] at h
  intro hm
  have := h x hm
  rw [hx] at this
  simp at this
def keyL (f : Fi) : List UInt8 := Lib.itoa f.kind ++ 32 :: (bytes f.at'.c ++ 46 :: (bytes f.at'.m ++ 35 :: (Lib.itoa f.at'.n ++ 32 :: bytes f.what)))
theorem keyB_bytes (f : Fi) : bytes (keyB f) = keyL f := by
  unfold keyB keyL bytes itoaB
  simp [ByteArray.data_append]
/-- two valid findings: what their keys say -/
structure Valid (f : Fi) : Prop where
  kind : 0 ≤ f.kind
  c : identB f.at'.c = true
  m : identB f.at'.m = true
  n : 0 ≤ f.at'.n
theorem key_inj {f g : Fi} (hf : Valid f) (hg : Valid g) (h : keyB f = keyB g) : f.kind = g.kind ∧ f.at' = g.at' ∧ f.what = g.what := by
  have h := congrArg bytes h
  rw [keyB_bytes, keyB_bytes] at h
  unfold keyL at h
  obtain ⟨h1, h⟩ := split_at (itoa_no hf.kind) (itoa_no hg.kind) h
  obtain ⟨h2, h⟩ := split_at (ident_no hf.c (by decide)) (ident_no hg.c (by decide)) h
  obtain ⟨h3, h⟩ := split_at (ident_no hf.m (by decide)) (ident_no hg.m (by decide)) h
  obtain ⟨h4, h5⟩ := split_at (itoa_no hf.n) (itoa_no hg.n) h
  have ext : ∀ {a b : ByteArray}, bytes a = bytes b → a = b := fun {a b} h => by
    apply ByteArray.ext
    exact Array.toList_inj.1 h
  refine ⟨itoa_inj hf.kind hg.kind h1, ?_, ext h5⟩
  have e1 := ext h2
  have e2 := ext h3
  have e3 := itoa_inj hf.n hg.n h4
  cases f with | mk _ p _ _ _ => cases g with | mk _ q _ _ _ => cases p; cases q; simp_all
theorem chkP_zero {p : Pl} (h : chkP p = 0) : identB p.c = true ∧ identB p.m = true ∧ 0 ≤ p.n := by
  unfold chkP at h
  cases h1 : identB p.c <;> cases h2 : identB p.m <;> cases h3 : decide (p.n < 0) <;> cases h4 : decide (p.n ≥ 1024) <;> simp_all
theorem chkF_zero {f : Fi} (h : chkF f = 0) : Valid f := by
  unfold chkF at h
  cases h1 : decide (f.kind < 1) <;> cases h2 : decide (f.kind > 4) <;> cases h3 : chkP f.at' != 0 <;> simp [h1, h2, h3] at h
  · have h3 : chkP f.at' = 0 := by simpa using h3
    obtain ⟨a, b, c⟩ := chkP_zero h3
    simp only [decide_eq_false_iff_not] at h1
    exact ⟨by omega, a, b, c⟩
  · simp [h] at h3
def sameF (f g : Fi) : Bool := f.kind == g.kind && (plEq f.at' g.at' && eqS f.what g.what)
theorem beqB {a b : ByteArray} : (a == b) = true ↔ a = b := by
  constructor
  · intro h
    cases a with | mk x => cases b with | mk y =>
    have : (x == y) = true := h
    rw [beq_iff_eq.1 this]
  · rintro rfl
    cases a with | mk x =>
    have : (x == x) = true := by simp
    exact this
theorem plEq_iff {p q : Pl} : plEq p q = true ↔ p = q := by
  unfold plEq
  cases p; cases q
  simp [beqB]
theorem keys_same {f g : Fi} (hf : chkF f = 0) (hg : chkF g = 0) : eqS (keyB f) (keyB g) = sameF f g := by
  rw [Bool.eq_iff_iff]
  simp only [sameF, Bool.and_eq_true, eqS_iff, plEq_iff, beq_iff_eq]
  constructor
  · exact key_inj (chkF_zero hf) (chkF_zero hg)
  · rintro ⟨h1, h2, h3⟩
    unfold keyB
    rw [h1, h2, h3]

/-- FindingKeys, run -/
def tail6 {α : Type} (f g : Fi) (κ : T → Option α) (same : Bool) : Option α :=
  br (okBig f.t f.re) (br (okBig g.t g.re) (br (eqS (keyB f.re) (keyB g.re) == same) (br (okBig f.t f.re) (br (chkF f.re == 0) (κ (boolT true)) (κ (boolT false))) none) (κ (boolT false))) none) none
theorem t6 {α : Type} (f g : Fi) (κ : T → Option α) : ((asks @sumT).next E1 nokeep 5000).pure 6 [f.t, g.t] κ =
    br (decide ((f.path.length : Int) > 4200)) (κ (boolT true)) (br (decide ((g.path.length : Int) > 4200)) (κ (boolT true))
      (br (okBig f.t f.re) (br (chkF f.re != 0) (κ (boolT true)) (br (okBig g.t g.re) (br (chkF g.re != 0) (κ (boolT true))
        (br (f.kind == g.kind) (br (plEq f.at' g.at') (tail6 f g κ (eqS f.what g.what)) (tail6 f g κ false)) (tail6 f g κ false))) none)) none)) := by kernel_rfl
theorem s6 (f g : Fi) (hf : okNum f = true) (hg : okNum g = true) : Says E1 6 [f.t, g.t] (boolT true) := by
  refine toldT.run nokeep 5000 ((t6 f g some).trans ?_)
  by_cases h1 : f.path.length ≤ 4200
  · have c1 : decide ((f.path.length : Int) > 4200) = false := by simp; omega
    by_cases h2 : g.path.length ≤ 4200
    · have c2 : decide ((g.path.length : Int) > 4200) = false := by simp; omega
      have c3 : okBig f.t f.re = true := by rw [Fi.re_eq, okBig, okFi_t h1, hf]; rfl
      have c4 : okBig g.t g.re = true := by rw [Fi.re_eq, okBig, okFi_t h2, hg]; rfl
      unfold tail6
      rw [c1, c2, c3, c4, Fi.re_eq, Fi.re_eq]
      by_cases h3 : chkF f = 0
      · by_cases h4 : chkF g = 0
        · rw [keys_same h3 h4, h3, h4]
          unfold sameF
          cases f.kind == g.kind <;> cases plEq f.at' g.at' <;> cases eqS f.what g.what <;> rfl
        · rw [h3, bne0 h4]
          rfl
      · rw [bne0 h3]
        rfl
    · have c2 : decide ((g.path.length : Int) > 4200) = true := by simp; omega
      rw [c1, c2]
      rfl
  · have c1 : decide ((f.path.length : Int) > 4200) = true := by simp; omega
    rw [c1]
    rfl
end Go.Ex
