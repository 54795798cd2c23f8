import Derived.Test.YtfnpmhhlhlbclaaDoorDtX
namespace Go.Ex
open Go.Proofs
set_option maxRecDepth 100000
/-! ### sorting in place: the block of a list, by rows that are not taken apart -/
def id33 : Nat := 8650752
def id41 : Nat := 10748096
noncomputable def E2 : Env := { P := Tryd.prog, G := glob, stateful := fun f => [33, 41, 42, 52, 59, 60, 43, 66, 69].any (Nat.beq f), opq := fun id => Nat.beq id 10748096 }
theorem Told.to2 {sum : {α : Type} → FuncId → List T → (T → Option α) → Option α} (h : Told E1 @sum) : Told E2 @sum := h
def fn8D : D := .v (.func (.func 8) #[] #[])
def fn8 : T := .one (.d fn8D)
/-- the memory of a call below ascending -/
def hpS (es : List (List D)) : Heap := [(8650752, ⟨0, .dat false 1 [[fn8D]]⟩), (10748096, ⟨1, .dat true 6 es⟩)]
def wsS : List Nat := [8650752, 10748096, 8650752, 10748096]
def dataT : T := .one (.own 10748096 1)
/-- what a comparison of two rows answers -/
def cR (r s : List D) : Int := cmpF (fiRow r) (fiRow s)
def rowT : T → Option (List D)
  | .aggd ds => some ds
  | .agg cs => toDs cs
  | _ => none
def sumZ {α : Type} (g : FuncId) (args : List T) (κ : T → Option α) : Option α := match g, args with
  | 8, [a, b] => match rowT a, rowT b with
    | some r, some s => br (okRow r && okRow s) (κ (intT .i64 (cR r s))) none
    | _, _ => none
  | _, _ => none
theorem row_rep {a : T} {r : List D} (h : rowT a = some r) (ho : okRow r = true) {X : Ctx} {v : Value} (hr : RepT X a v) : RepT X (fiRow r).t v := by
  have h1 : RepT X (.agg (r.map .d)) v := by
    unfold rowT at h
    split at h
    · cases h; exact hr.aggd_agg
    · rename_i cs
      rw [← toDs_eq h]
      exact hr
    · simp at h
  have hf : fiOf (.agg (r.map .d)) = some (fiRow r) := by
    unfold fiRow
    unfold okRow okFi at ho
    split at ho
    · rename_i heq
      rw [heq]
      rfl
    · simp at ho
  exact fiOf_rep hf ho h1
theorem toldZ : Told E1 @sumZ := by
  intro α g args κ x hx
  unfold sumZ at hx
  split at hx
  · rename_i a b
    split at hx
    · rename_i r s hr hs
      cases hb : okRow r && okRow s with
      | false => rw [hb] at hx; simp [br] at hx
      | true =>
        rw [hb] at hx
        refine ⟨_, hx, fun κ' => by simp only [sumZ, hr, hs, hb, br], ?_⟩
        simp only [Bool.and_eq_true] at hb
        exact (s8 (fiRow r) (fiRow s) (row_len hb.1) (row_len hb.2)).args fun X vals h => RepTs.map2 (fun v => row_rep hr hb.1) (fun v => row_rep hs hb.2) h
    · simp at hx
  · simp at hx

/-- an element's place, a row read, a row written -/
def atI {α : Type} (es : List (List D)) (i : Int) (K : Option α) : Option α := br (decide (0 ≤ i)) (br (decide (i < (es.length : Int))) K none) none
def rdI {α : Type} (es : List (List D)) (i : Int) (K : List D → Option α) : Option α := br (Nat.blt i.toNat es.length) (K (es.getD i.toNat [])) none
def wrI {α : Type} (es : List (List D)) (i : Int) (r : List D) (K : List (List D) → Option α) : Option α :=
  br (Nat.beq r.length 6) (br (Nat.blt i.toNat es.length) (br (Nat.ble (0 + r.length) (es.getD i.toNat []).length) (K (es.set i.toNat (setCells (es.getD i.toNat []) 0 r))) none) none) none
def nohsum {α : Type} (_ : FuncId) (_ : List T) (_ : Heap) (_ : T → Heap → List Nat → Option α) : Option α := none
theorem nohsum_told : ToldH E2 @nohsum := fun f args hp κ x h => by simp [nohsum] at h
abbrev W64 (n : Int) : Int := IntKind.i64.wrap n

/-! ### swapRange -/
def keep69 (_ r : Nat) : Option Keep := match r with
  | 1 => some { tm := [0, 1, 2, 3, 10], ids := [], soft := true }
  | _ => none
def st69 (a b n i : Int) (es : List (List D)) : St :=
  { tm := [dataT, intT .i64 a, intT .i64 b, intT .i64 n, .any, .any, .any, .any, .any, .any, intT .i64 i] ++ List.replicate 27 .any, h := hpS es }
noncomputable abbrev S2 : Calls' := asks2 @sumZ @nohsum
theorem start69 {α : Type} (fuel : Nat) (a b n : Int) (es : List (List D)) (κ : T → Heap → List Nat → Option α) : (S2.next E2 keep69 fuel).heap 69 [dataT, intT .i64 a, intT .i64 b, intT .i64 n, fn8] (hpS es) κ =
    loopR E2 S2 (softOnly (keep69 69)) fuel 69 (heapK (hpS es) κ) 1 [] fuel (st69 a b n 0 es) := by kernel_rfl
theorem step69 {α : Type} (fuel m : Nat) (a b n i : Int) (es : List (List D)) (κ : T → Heap → Option α) : loopR E2 S2 (softOnly (keep69 69)) fuel 69 κ 1 [] (m + 1) (st69 a b n i es) =
    br (decide (i < n)) (atI es (W64 (b + i)) (rdI es (W64 (b + i)) fun y => atI es (W64 (a + i)) (rdI es (W64 (a + i)) fun x =>
      atI es (W64 (a + i)) (wrI es (W64 (a + i)) y fun es1 => atI es1 (W64 (b + i)) (wrI es1 (W64 (b + i)) x fun es2 =>
        loopR E2 S2 (softOnly (keep69 69)) fuel 69 κ 1 [] m (st69 a b n (W64 (i + 1)) es2)))))) (κ unitT (hpS es)) := by kernel_rfl
end Go.Ex
namespace Go.Ex
open Go.Proofs
set_option maxRecDepth 100000
/-! ### rows within lists -/
def okR (es : List (List D)) : Prop := ∀ r ∈ es, okRow r = true
theorem okRow_len {r : List D} (h : okRow r = true) : r.length = 6 := by
  unfold okRow okFi at h
  split at h
  · rename_i heq
    simp only [T.agg.injEq] at heq
    have := congrArg List.length heq
    simpa using this
  · simp at h
theorem atI_eq {α : Type} {es : List (List D)} {i : Int} {k : Nat} (hi : i = k) (hk : k < es.length) (K : Option α) : atI es i K = K := by
  subst hi
  have h1 : decide ((0 : Int) ≤ (k : Int)) = true := by simp
  have h2 : decide ((k : Int) < (es.length : Int)) = true := by simp; omega
  unfold atI
  rw [h1, h2]
  rfl
theorem rdI_eq {α : Type} {A C : List (List D)} {x : List D} {i : Int} (hi : i = (A.length : Nat)) (K : List D → Option α) : rdI (A ++ x :: C) i K = K x := by
  subst hi
  have h1 : Nat.blt ((A.length : Nat) : Int).toNat (A ++ x :: C).length = true := by simp [Nat.blt_eq]
  have h2 : (A ++ x :: C).getD ((A.length : Nat) : Int).toNat [] = x := by simp [List.getD]
  unfold rdI
  rw [h1, h2]
  rfl
theorem wrI_eq {α : Type} {A C : List (List D)} {x r : List D} {i : Int} (hi : i = (A.length : Nat)) (hx : x.length = 6) (hr : r.length = 6) (K : List (List D) → Option α) : wrI (A ++ x :: C) i r K = K (A ++ r :: C) := by
  subst hi
  have h1 : Nat.blt ((A.length : Nat) : Int).toNat (A ++ x :: C).length = true := by simp [Nat.blt_eq]
  have h2 : (A ++ x :: C).getD ((A.length : Nat) : Int).toNat [] = x := by simp [List.getD]
  have h3 : Nat.beq r.length 6 = true := by rw [hr]; rfl
  have h4 : Nat.ble (0 + r.length) x.length = true := Nat.ble_eq_true_of_le (by omega)
  have h5 : setCells x 0 r = r := by
    unfold setCells
    rw [List.drop_of_length_le (by omega)]
    simp
  have h6 : (A ++ x :: C).set ((A.length : Nat) : Int).toNat r = A ++ r :: C := by simp
  unfold wrI
  rw [h1, h2, h3, h4, h5, h6]
  rfl
theorem okR_app {a b : List (List D)} : okR (a ++ b) ↔ okR a ∧ okR b := by
  simp only [okR, List.mem_append]
  exact ⟨fun h => ⟨fun r hr => h r (.inl hr), fun r hr => h r (.inr hr)⟩, fun h r hr => hr.elim (h.1 r) (h.2 r)⟩
theorem okR_cons {a : List D} {b : List (List D)} : okR (a :: b) ↔ okRow a = true ∧ okR b := by
  simp only [okR, List.mem_cons]
  exact ⟨fun h => ⟨h a (.inl rfl), fun r hr => h r (.inr hr)⟩, fun h r hr => hr.elim (fun e => e ▸ h.1) (h.2 r)⟩
theorem okR_perm {a b : List (List D)} (h : a.Perm b) (ha : okR a) : okR b := fun r hr => ha r (h.mem_iff.2 hr)
theorem w64_id {n : Int} (h0 : -4611686018427387904 ≤ n) (h1 : n < 4611686018427387904) : W64 n = n := wrap_id (by omega) (by omega)

/-- two rows change places: the later is read first, the earlier is written first -/
theorem swapA {α : Type} {A B C : List (List D)} {x y : List D} {p q : Int} (hp : p = (A.length : Nat)) (hq : q = ((A.length + 1 + B.length : Nat) : Int)) (hx : x.length = 6) (hy : y.length = 6) (K : List (List D) → Option α) :
    atI (A ++ x :: (B ++ y :: C)) q (rdI (A ++ x :: (B ++ y :: C)) q fun y' => atI (A ++ x :: (B ++ y :: C)) p (rdI (A ++ x :: (B ++ y :: C)) p fun x' =>
      atI (A ++ x :: (B ++ y :: C)) p (wrI (A ++ x :: (B ++ y :: C)) p y' fun es1 => atI es1 q (wrI es1 q x' K)))) = K (A ++ y :: (B ++ x :: C)) := by
  have e1 : A ++ x :: (B ++ y :: C) = (A ++ x :: B) ++ y :: C := by simp
  have e2 : A ++ y :: (B ++ y :: C) = (A ++ y :: B) ++ y :: C := by simp
  have l1 : (A ++ x :: B).length = A.length + 1 + B.length := by simp; omega
  have l2 : (A ++ y :: B).length = A.length + 1 + B.length := by simp; omega
  rw [atI_eq hq (by simp; omega)]
  have r1 : ∀ K : List D → Option α, rdI (A ++ x :: (B ++ y :: C)) q K = K y := fun K => by rw [e1]; exact rdI_eq (by rw [l1]; exact hq) K
  rw [r1, atI_eq hp (by simp), rdI_eq hp, atI_eq hp (by simp), wrI_eq hp hx hy, atI_eq hq (by simp; omega), e2, wrI_eq (by rw [l2]; exact hq) hy hx]
  simp
theorem rounds69 {α : Type} (fuel : Nat) (κ : T → Heap → Option α) : ∀ (X2 Y2 L Y1 M X1 R : List (List D)) (a b n : Int) (m : Nat), X2.length = Y2.length → Y1.length = X1.length → okR X2 → okR Y2 → a = (L.length : Nat) →
    b = ((L.length + Y1.length + X2.length + M.length : Nat) : Int) → n = ((X1.length + X2.length : Nat) : Int) → X2.length < m → (L ++ Y1 ++ X2 ++ M ++ X1 ++ Y2 ++ R).length < 1000000 →
    loopR E2 S2 (softOnly (keep69 69)) fuel 69 κ 1 [] m (st69 a b n (X1.length : Nat) (L ++ Y1 ++ (X2 ++ M ++ X1 ++ (Y2 ++ R)))) = κ unitT (hpS (L ++ Y1 ++ (Y2 ++ M ++ X1 ++ (X2 ++ R))))
  | [], [], L, Y1, M, X1, R, a, b, n, m + 1, _, _, _, _, ha, hb, hn, _, _ => by
    rw [step69]
    have c : decide (((X1.length : Nat) : Int) < n) = false := by rw [hn]; simp
    rw [c]
    rfl
  | x :: X2, y :: Y2, L, Y1, M, X1, R, a, b, n, m + 1, h1, h2, h3, h4, ha, hb, hn, hm, hl => by
    rw [step69]
    have c : decide (((X1.length : Nat) : Int) < n) = true := by rw [hn]; simp; omega
    simp only [List.length_append, List.length_cons] at hl hb hn
    have wa : W64 (a + ((X1.length : Nat) : Int)) = ((L ++ Y1).length : Nat) := by
      rw [w64_id (by omega) (by omega)]
      simp only [List.length_append]
      omega
    have wb : W64 (b + ((X1.length : Nat) : Int)) = (((L ++ Y1).length + 1 + (X2 ++ M ++ X1).length : Nat) : Int) := by
      rw [w64_id (by omega) (by omega)]
      simp only [List.length_append]
      omega
    have wi : W64 (((X1.length : Nat) : Int) + 1) = (((X1 ++ [x]).length : Nat) : Int) := by
      rw [w64_id (by omega) (by omega)]
      simp
    have hx := okRow_len (okR_cons.1 h3).1
    have hy := okRow_len (okR_cons.1 h4).1
    have e : L ++ Y1 ++ (x :: X2 ++ M ++ X1 ++ (y :: Y2 ++ R)) = (L ++ Y1) ++ x :: ((X2 ++ M ++ X1) ++ y :: (Y2 ++ R)) := by simp
    rw [c, e]
    simp only [br]
    rw [swapA wa wb hx hy, wi]
    have e2 : L ++ Y1 ++ y :: (X2 ++ M ++ X1 ++ x :: (Y2 ++ R)) = L ++ (Y1 ++ [y]) ++ (X2 ++ M ++ (X1 ++ [x]) ++ (Y2 ++ R)) := by simp
    rw [e2, rounds69 fuel κ X2 Y2 L (Y1 ++ [y]) M (X1 ++ [x]) R a b n m (by simpa using h1) (by simpa using h2) (okR_cons.1 h3).2 (okR_cons.1 h4).2 ha
      (by rw [hb]; congr 1; simp; omega) (by rw [hn]; congr 1; simp; omega) (by simp at hm; omega) (by simp only [List.length_append, List.length_cons, List.length_nil] at hl ⊢; omega)]
    congr 2
    simp
end Go.Ex
namespace Go.Ex
open Go.Proofs
set_option maxRecDepth 100000
/-! ### what the functions that write leave behind -/
def asData : T → Bool
  | .one (.own i v) => Nat.beq i 10748096 && Nat.beq v 1
  | _ => false
def asFn : T → Bool
  | .one (.d (.v (.func (.func g) ⟨[]⟩ ⟨[]⟩))) => Nat.beq g 8
  | _ => false
def asInt : T → Option Int
  | .one (.d (.v (.int .i64 n))) => some n
  | _ => none
def asMid : List T → Option (List Int)
  | [] => none
  | c :: r => match r with
    | [] => match asFn c with
      | true => some []
      | false => none
    | _ :: _ => match asInt c, asMid r with
      | some n, some l => some (n :: l)
      | _, _ => none
def asArgs : List T → Option (List Int)
  | d :: r => match asData d with
    | true => asMid r
    | false => none
  | _ => none
def asHp : Heap → Option (List (List D))
  | [(i, ⟨v, .dat false 1 [[.v (.func (.func g) ⟨[]⟩ ⟨[]⟩)]]⟩), (j, ⟨u, .dat true 6 es⟩)] => match Nat.beq i 8650752 && (Nat.beq v 0 && (Nat.beq g 8 && (Nat.beq j 10748096 && Nat.beq u 1))) with
    | true => some es
    | false => none
  | _ => none
def argsOf (ints : List Int) : List T := dataT :: (ints.map (intT .i64) ++ [fn8])
theorem asFn_eq {c : T} (hc : asFn c = true) : c = fn8 := by
  unfold asFn at hc
  split at hc
  · rename_i g
    rw [Nat.eq_of_beq_eq_true hc]
    rfl
  · simp at hc
theorem asInt_eq {t : T} {n : Int} (h : asInt t = some n) : t = intT .i64 n := by
  unfold asInt at h
  split at h
  · cases h; rfl
  · simp at h
theorem asMid_eq : ∀ {args : List T} {ints : List Int}, asMid args = some ints → args = ints.map (intT .i64) ++ [fn8]
  | [], _, h => by simp [asMid] at h
  | [c], ints, h => by
    simp only [asMid] at h
    split at h
    · rename_i hc
      cases h
      rw [asFn_eq hc]
      rfl
    · simp at h
  | x :: y :: r, ints, h => by
    rw [asMid] at h
    split at h
    · rename_i n l hn hl
      cases h
      rw [asInt_eq hn, asMid_eq hl]
      rfl
    · simp at h
theorem asArgs_eq {args : List T} {ints : List Int} (h : asArgs args = some ints) : args = argsOf ints := by
  unfold asArgs at h
  split at h
  · rename_i d r
    split at h
    · rename_i hd
      unfold asData at hd
      split at hd
      · simp only [Bool.and_eq_true] at hd
        rw [Nat.eq_of_beq_eq_true hd.1, Nat.eq_of_beq_eq_true hd.2, asMid_eq h]
        rfl
      · simp at hd
    · simp at h
  · simp at h
theorem asHp_eq {hp : Heap} {es : List (List D)} (h : asHp hp = some es) : hp = hpS es := by
  unfold asHp at h
  split at h
  · split at h
    · rename_i hc
      simp only [Bool.and_eq_true] at hc
      cases h
      rw [Nat.eq_of_beq_eq_true hc.1, Nat.eq_of_beq_eq_true hc.2.1, Nat.eq_of_beq_eq_true hc.2.2.1, Nat.eq_of_beq_eq_true hc.2.2.2.1, Nat.eq_of_beq_eq_true hc.2.2.2.2]
      rfl
    · simp at h
  · simp at h

def sortedR (l : List (List D)) : Prop := l.Pairwise fun r s => cR r s ≤ 0
/-- what each leaves -/
def post (f : FuncId) (ints : List Int) (es es' : List (List D)) : Prop := match f, ints with
  | 69, [a, b, n] => ∀ L X M Y R, es = L ++ X ++ M ++ Y ++ R → X.length = Y.length → a = (L.length : Nat) → b = ((L.length + X.length + M.length : Nat) : Int) → n = (X.length : Nat) → es' = L ++ Y ++ M ++ X ++ R
  | 66, [a, m, b] => ∀ L X Y R, es = L ++ X ++ Y ++ R → a = (L.length : Nat) → m = ((L.length + X.length : Nat) : Int) → b = ((L.length + X.length + Y.length : Nat) : Int) → es' = L ++ Y ++ X ++ R
  | 59, [a, b] => ∀ L M R, es = L ++ M ++ R → a = (L.length : Nat) → b = ((L.length + M.length : Nat) : Int) → ∃ M', M'.Perm M ∧ sortedR M' ∧ es' = L ++ M' ++ R
  | 60, [a, m, b] => ∀ L A B R, es = L ++ A ++ B ++ R → a = (L.length : Nat) → m = ((L.length + A.length : Nat) : Int) → b = ((L.length + A.length + B.length : Nat) : Int) → ∃ M', M'.Perm (A ++ B) ∧ sortedR M' ∧ es' = L ++ M' ++ R
  | _, _ => es'.Perm es ∧ sortedR es'
def Leaves (f : FuncId) (ints : List Int) (es es' : List (List D)) : Prop := SaysH E2 f (argsOf ints) (hpS es) unitT (hpS es') wsS ∧ post f ints es es'
noncomputable def gdB (f : FuncId) (ints : List Int) (es : List (List D)) : Bool := @decide (∃ es', Leaves f ints es es') (Classical.propDecidable _)
noncomputable def resB (f : FuncId) (ints : List Int) (es : List (List D)) : List (List D) := Classical.epsilon (Leaves f ints es)
noncomputable def hsumS {α : Type} (f : FuncId) (args : List T) (hp : Heap) (κ : T → Heap → List Nat → Option α) : Option α := match asArgs args, asHp hp with
  | some ints, some es => br (gdB f ints es) (κ unitT (hpS (resB f ints es)) wsS) none
  | _, _ => none
theorem gdB_of {f : FuncId} {ints : List Int} {es : List (List D)} (h : ∃ es', Leaves f ints es es') : gdB f ints es = true ∧ Leaves f ints es (resB f ints es) :=
  ⟨by unfold gdB; exact @decide_eq_true _ (Classical.propDecidable _) h, Classical.epsilon_spec h⟩
theorem hsumS_told : ToldH E2 @hsumS := by
  intro α f args hp κ x hx
  unfold hsumS at hx
  split at hx
  · rename_i ints es ha hh
    cases hb : gdB f ints es with
    | false => rw [hb] at hx; simp [br] at hx
    | true =>
      rw [hb] at hx
      refine ⟨_, _, _, hx, fun κ' => by simp only [hsumS, ha, hh, hb, br], ?_⟩
      have hex : ∃ es', Leaves f ints es es' := by
        unfold gdB at hb
        exact @of_decide_eq_true _ (Classical.propDecidable _) hb
      rw [asArgs_eq ha, asHp_eq hh]
      exact (Classical.epsilon_spec hex).1
  · simp at hx
noncomputable abbrev S3 : Calls' := asks2 @sumZ @hsumS
/-- a function run over what is said of its callees -/
theorem leave_of {keeps : FuncId → Nat → Option Keep} {fuel : Nat} {f : FuncId} {ints : List Int} {es es' : List (List D)}
    (h : (S3.next E2 keeps fuel).heap f (argsOf ints) (hpS es) (fun r h ws => some (r, h, ws)) = some (unitT, hpS es', wsS)) : SaysH E2 f (argsOf ints) (hpS es) unitT (hpS es') wsS :=
  Told.saysH (E := E2) (sum := @sumZ) (hsum := @hsumS) (Told.to2 (sum := @sumZ) toldZ) hsumS_told mix prog_ok keeps fuel h
theorem leave_of2 {keeps : FuncId → Nat → Option Keep} {fuel : Nat} {f : FuncId} {ints : List Int} {es es' : List (List D)}
    (h : (S2.next E2 keeps fuel).heap f (argsOf ints) (hpS es) (fun r h ws => some (r, h, ws)) = some (unitT, hpS es', wsS)) : SaysH E2 f (argsOf ints) (hpS es) unitT (hpS es') wsS :=
  Told.saysH (E := E2) (sum := @sumZ) (hsum := @nohsum) (Told.to2 (sum := @sumZ) toldZ) nohsum_told mix prog_ok keeps fuel h

theorem split5 {L X M Y R L' X' M' Y' R' : List (List D)} (h : L ++ X ++ M ++ Y ++ R = L' ++ X' ++ M' ++ Y' ++ R') (h1 : L.length = L'.length) (h2 : X.length = X'.length) (h3 : M.length = M'.length) (h4 : Y.length = Y'.length) :
    L = L' ∧ X = X' ∧ M = M' ∧ Y = Y' ∧ R = R' := by
  have a1 := List.append_inj h (by simp [h1, h2, h3, h4])
  have a2 := List.append_inj a1.1 (by simp [h1, h2, h3])
  have a3 := List.append_inj a2.1 (by simp [h1, h2])
  have a4 := List.append_inj a3.1 h1
  exact ⟨a4.1, a4.2, a3.2, a2.2, a1.2⟩
theorem split4 {L X M R L' X' M' R' : List (List D)} (h : L ++ X ++ M ++ R = L' ++ X' ++ M' ++ R') (h1 : L.length = L'.length) (h2 : X.length = X'.length) (h3 : M.length = M'.length) : L = L' ∧ X = X' ∧ M = M' ∧ R = R' := by
  have a2 := List.append_inj h (by simp [h1, h2, h3])
  have a3 := List.append_inj a2.1 (by simp [h1, h2])
  have a4 := List.append_inj a3.1 h1
  exact ⟨a4.1, a4.2, a3.2, a2.2⟩
theorem split3 {L X R L' X' R' : List (List D)} (h : L ++ X ++ R = L' ++ X' ++ R') (h1 : L.length = L'.length) (h2 : X.length = X'.length) : L = L' ∧ X = X' ∧ R = R' := by
  have a3 := List.append_inj h (by simp [h1, h2])
  have a4 := List.append_inj a3.1 h1
  exact ⟨a4.1, a4.2, a3.2⟩

theorem swap_leaves {L X M Y R : List (List D)} (hok : okR (L ++ X ++ M ++ Y ++ R)) (hn : (L ++ X ++ M ++ Y ++ R).length < 1000000) (hl : X.length = Y.length) :
    ∃ es', Leaves 69 [(L.length : Nat), ((L.length + X.length + M.length : Nat) : Int), (X.length : Nat)] (L ++ X ++ M ++ Y ++ R) es' := by
  refine ⟨L ++ Y ++ M ++ X ++ R, leave_of2 (keeps := keep69) (fuel := X.length + 1) ?_, ?_⟩
  · have h1 := start69 (X.length + 1) (L.length : Nat) ((L.length + X.length + M.length : Nat) : Int) (X.length : Nat) (L ++ X ++ M ++ Y ++ R) (fun r h ws => some (r, h, ws))
    simp only [okR_app] at hok
    have h2 := rounds69 (X.length + 1) (heapK (hpS (L ++ X ++ M ++ Y ++ R)) fun r h ws => some (r, h, ws)) X Y L [] M [] R (L.length : Nat) ((L.length + X.length + M.length : Nat) : Int) (X.length : Nat) (X.length + 1) hl rfl hok.1.1.1.2 hok.1.2 rfl
      (by simp) (by simp) (by omega) (by simpa using hn)
    simp only [List.append_nil, List.length_nil] at h2
    have e1 : L ++ (X ++ M ++ (Y ++ R)) = L ++ X ++ M ++ Y ++ R := by simp
    have e2 : L ++ (Y ++ M ++ (X ++ R)) = L ++ Y ++ M ++ X ++ R := by simp
    rw [e1, e2] at h2
    exact h1.trans h2
  · intro L' X' M' Y' R' he hl' ha hb hc
    have s1 : L.length = L'.length := by omega
    have s2 : X.length = X'.length := by omega
    obtain ⟨rfl, rfl, rfl, rfl, rfl⟩ := split5 he s1 s2 (by omega) (by omega)
    rfl
end Go.Ex
namespace Go.Ex
open Go.Proofs
set_option maxRecDepth 100000
/-! ### rotate -/
def keep66 (_ r : Nat) : Option Keep := match r with
  | 2 => some { tm := [0, 2, 4, 10, 11], ids := [], soft := true }
  | _ => none
def st66 (m i j : Int) (es : List (List D)) : St :=
  { tm := [dataT, .any, intT .i64 m, .any, fn8, .any, .any, .any, .any, .any, intT .i64 i, intT .i64 j] ++ List.replicate 46 .any, h := hpS es }
noncomputable def ofCall {α : Type} (f : FuncId) (ints : List Int) (es : List (List D)) (K : List (List D) → Option α) : Option α := br (gdB f ints es) (K (resB f ints es)) none
theorem start66 {α : Type} (fuel : Nat) (a m b : Int) (es : List (List D)) (κ : T → Heap → List Nat → Option α) : (S3.next E2 keep66 fuel).heap 66 (argsOf [a, m, b]) (hpS es) κ =
    loopR E2 S3 (softOnly (keep66 66)) fuel 66 (heapK (hpS es) κ) 2 [] fuel (st66 m (W64 (m - a)) (W64 (b - m)) es) := by kernel_rfl
theorem step66 {α : Type} (fuel k : Nat) (m i j : Int) (es : List (List D)) (κ : T → Heap → Option α) : loopR E2 S3 (softOnly (keep66 66)) fuel 66 κ 2 [] (k + 1) (st66 m i j es) =
    br (i != j) (br (decide (i > j)) (ofCall 69 [W64 (m - i), m, j] es fun es' => loopR E2 S3 (softOnly (keep66 66)) fuel 66 κ 2 [] k (st66 m (W64 (i - j)) j es'))
      (ofCall 69 [W64 (m - i), W64 (W64 (m + j) - i), i] es fun es' => loopR E2 S3 (softOnly (keep66 66)) fuel 66 κ 2 [] k (st66 m i (W64 (j - i)) es')))
      (ofCall 69 [W64 (m - i), m, i] es fun es' => κ unitT (hpS es')) := by kernel_rfl
theorem ofCall_eq {α : Type} {f : FuncId} {ints : List Int} {es : List (List D)} (h : ∃ es', Leaves f ints es es') (K : List (List D) → Option α) : ofCall f ints es K = K (resB f ints es) := by
  unfold ofCall
  rw [(gdB_of h).1]
  rfl
theorem swap_call {α : Type} {L X M Y R : List (List D)} {a b n : Int} (hok : okR (L ++ X ++ M ++ Y ++ R)) (hn : (L ++ X ++ M ++ Y ++ R).length < 1000000) (hl : X.length = Y.length)
    (ha : a = (L.length : Nat)) (hb : b = ((L.length + X.length + M.length : Nat) : Int)) (hc : n = (X.length : Nat)) (K : List (List D) → Option α) : ofCall 69 [a, b, n] (L ++ X ++ M ++ Y ++ R) K = K (L ++ Y ++ M ++ X ++ R) := by
  subst ha; subst hb; subst hc
  have h := swap_leaves hok hn hl
  rw [ofCall_eq h, (gdB_of h).2.2 L X M Y R rfl hl rfl rfl rfl]
theorem rounds66 {α : Type} (fuel : Nat) (κ : T → Heap → Option α) : ∀ (k : Nat) (P X Y Q : List (List D)) (m : Int), okR (P ++ X ++ Y ++ Q) → (P ++ X ++ Y ++ Q).length < 1000000 → 0 < X.length → 0 < Y.length → m = ((P.length + X.length : Nat) : Int) → X.length + Y.length ≤ k →
    loopR E2 S3 (softOnly (keep66 66)) fuel 66 κ 2 [] k (st66 m (X.length : Nat) (Y.length : Nat) (P ++ X ++ Y ++ Q)) = κ unitT (hpS (P ++ Y ++ X ++ Q))
  | 0, P, X, Y, Q, m, _, _, h1, _, _, h => by omega
  | k + 1, P, X, Y, Q, m, hok, hn, h1, h2, hm, h => by
    rw [step66]
    have hn' := hn
    simp only [List.length_append] at hn'
    by_cases he : X.length = Y.length
    · have c : (((X.length : Nat) : Int) != ((Y.length : Nat) : Int)) = false := by rw [he]; simp
      rw [c]
      simp only [br]
      have e : P ++ X ++ Y ++ Q = P ++ X ++ [] ++ Y ++ Q := by simp
      rw [e, swap_call (by rw [← e]; exact hok) (by rw [← e]; exact hn) he (by rw [w64_id (by omega) (by omega)]; omega) (by simp only [List.length_nil]; omega) rfl]
      simp
    · have c : (((X.length : Nat) : Int) != ((Y.length : Nat) : Int)) = true := by simp; omega
      rw [c]
      simp only [br]
      by_cases hg : Y.length < X.length
      · have c2 : decide (((X.length : Nat) : Int) > ((Y.length : Nat) : Int)) = true := by simp; omega
        rw [c2]
        simp only
        obtain ⟨X1, X2, rfl, hX1⟩ : ∃ X1 X2, X = X1 ++ X2 ∧ X1.length = Y.length := ⟨X.take Y.length, X.drop Y.length, by simp, by simp; omega⟩
        simp only [List.length_append] at hn' h1 hm h hg he ⊢
        have e : P ++ (X1 ++ X2) ++ Y ++ Q = P ++ X1 ++ X2 ++ Y ++ Q := by simp
        rw [e, swap_call (by rw [← e]; exact hok) (by rw [← e]; exact hn) hX1 (by rw [w64_id (by omega) (by omega)]; omega) (by omega) (by omega)]
        have wi : W64 (((X1.length + X2.length : Nat) : Int) - ((Y.length : Nat) : Int)) = ((X2.length : Nat) : Int) := by rw [w64_id (by omega) (by omega)]; omega
        have wj : ((Y.length : Nat) : Int) = ((X1.length : Nat) : Int) := by omega
        rw [wi, wj]
        have e2 : P ++ Y ++ X2 ++ X1 ++ Q = (P ++ Y) ++ X2 ++ X1 ++ Q := by simp
        simp only [okR_app] at hok
        rw [e2, rounds66 fuel κ k (P ++ Y) X2 X1 Q m (by simp only [okR_app]; exact ⟨⟨⟨⟨hok.1.1.1, hok.1.2⟩, hok.1.1.2.2⟩, hok.1.1.2.1⟩, hok.2⟩) (by simp only [List.length_append]; omega) (by omega) (by omega) (by rw [hm]; congr 1; simp only [List.length_append]; omega) (by omega)]
        simp
      · have c2 : decide (((X.length : Nat) : Int) > ((Y.length : Nat) : Int)) = false := by simp; omega
        rw [c2]
        simp only
        obtain ⟨Y1, Y2, rfl, hY2⟩ : ∃ Y1 Y2, Y = Y1 ++ Y2 ∧ Y2.length = X.length := ⟨Y.take (Y.length - X.length), Y.drop (Y.length - X.length), by simp, by simp; omega⟩
        simp only [List.length_append] at hn' h2 hm h hg he ⊢
        have e : P ++ X ++ (Y1 ++ Y2) ++ Q = P ++ X ++ Y1 ++ Y2 ++ Q := by simp
        have wb : W64 (W64 (m + ((Y1.length + Y2.length : Nat) : Int)) - ((X.length : Nat) : Int)) = ((P.length + X.length + Y1.length : Nat) : Int) := by
          rw [w64_id (n := m + _) (by omega) (by omega), w64_id (by omega) (by omega)]
          omega
        rw [e, swap_call (by rw [← e]; exact hok) (by rw [← e]; exact hn) hY2.symm (by rw [w64_id (by omega) (by omega)]; omega) wb rfl]
        have wj : W64 (((Y1.length + Y2.length : Nat) : Int) - ((X.length : Nat) : Int)) = ((Y1.length : Nat) : Int) := by rw [w64_id (by omega) (by omega)]; omega
        have wi : ((X.length : Nat) : Int) = ((Y2.length : Nat) : Int) := by omega
        rw [wj, wi]
        simp only [okR_app] at hok
        have e2 : P ++ Y2 ++ Y1 ++ X ++ Q = P ++ Y2 ++ Y1 ++ (X ++ Q) := by simp
        rw [e2, rounds66 fuel κ k P Y2 Y1 (X ++ Q) m (by simp only [okR_app]; exact ⟨⟨⟨hok.1.1.1, hok.1.2.2⟩, hok.1.2.1⟩, hok.1.1.2, hok.2⟩) (by simp only [List.length_append]; omega) (by omega) (by omega) (by rw [hm]; congr 1; omega) (by omega)]
        simp
theorem rotate_leaves {L X Y R : List (List D)} (hok : okR (L ++ X ++ Y ++ R)) (hn : (L ++ X ++ Y ++ R).length < 1000000) (h1 : 0 < X.length) (h2 : 0 < Y.length) :
    ∃ es', Leaves 66 [(L.length : Nat), ((L.length + X.length : Nat) : Int), ((L.length + X.length + Y.length : Nat) : Int)] (L ++ X ++ Y ++ R) es' := by
  refine ⟨L ++ Y ++ X ++ R, leave_of (keeps := keep66) (fuel := X.length + Y.length) ?_, ?_⟩
  · refine (start66 _ _ _ _ _ _).trans ?_
    simp only [List.length_append] at hn
    rw [w64_id (by omega) (by omega), w64_id (by omega) (by omega)]
    have e1 : ((L.length + X.length : Nat) : Int) - ((L.length : Nat) : Int) = ((X.length : Nat) : Int) := by omega
    have e2 : ((L.length + X.length + Y.length : Nat) : Int) - ((L.length + X.length : Nat) : Int) = ((Y.length : Nat) : Int) := by omega
    rw [e1, e2, rounds66 _ _ _ L X Y R _ hok (by simp only [List.length_append]; omega) h1 h2 rfl (Nat.le_refl _)]
    rfl
  · intro L' X' Y' R' he ha hb hc
    have s1 : L.length = L'.length := by omega
    have s2 : X.length = X'.length := by omega
    obtain ⟨rfl, rfl, rfl, rfl⟩ := split4 he s1 s2 (by omega)
    rfl
end Go.Ex
namespace Go.Ex
open Go.Proofs
set_option maxRecDepth 100000
/-! ### insertion sort -/
def keep59 (_ r : Nat) : Option Keep := match r with
  | 1 => some { tm := [0, 1, 2, 3, 8], ids := [], soft := true }
  | 4 => some { tm := [0, 1, 2, 3, 8, 9], ids := [], soft := true }
  | _ => none
def stO59 (a b i : Int) (es : List (List D)) : St := { tm := [dataT, intT .i64 a, intT .i64 b, fn8, .any, .any, .any, .any, intT .i64 i] ++ List.replicate 44 .any, h := hpS es }
def stI59 (a b i j : Int) (es : List (List D)) : St := { tm := [dataT, intT .i64 a, intT .i64 b, fn8, .any, .any, .any, .any, intT .i64 i, intT .i64 j] ++ List.replicate 43 .any, h := hpS es }
noncomputable abbrev o59 {α : Type} (fuel : Nat) (κ : T → Heap → Option α) (m : Nat) (s : St) : Option α := loopR E2 S3 (softOnly (keep59 59)) fuel 59 κ 1 [] m s
noncomputable abbrev i59 {α : Type} (fuel : Nat) (κ : T → Heap → Option α) (mo m : Nat) (s : St) : Option α := loopR E2 S3 (softOnly (keep59 59)) fuel 59 κ 4 [mo] m s
theorem start59 {α : Type} (fuel : Nat) (a b : Int) (es : List (List D)) (κ : T → Heap → List Nat → Option α) : (S3.next E2 keep59 fuel).heap 59 (argsOf [a, b]) (hpS es) κ = o59 fuel (heapK (hpS es) κ) fuel (stO59 a b (W64 (a + 1)) es) := by kernel_rfl
theorem stepO59 {α : Type} (fuel m : Nat) (a b i : Int) (es : List (List D)) (κ : T → Heap → Option α) : o59 fuel κ (m + 1) (stO59 a b i es) = br (decide (i < b)) (i59 fuel κ m fuel (stI59 a b i i es)) (κ unitT (hpS es)) := by kernel_rfl
theorem stepI59 {α : Type} (fuel mo k : Nat) (a b i j : Int) (es : List (List D)) (κ : T → Heap → Option α) : i59 fuel κ mo (k + 1) (stI59 a b i j es) =
    br (decide (j > a)) (atI es j (rdI es j fun x => atI es (W64 (j - 1)) (rdI es (W64 (j - 1)) fun y => br (okRow x && okRow y) (br (decide (cR x y < 0))
      (atI es (W64 (j - 1)) (rdI es (W64 (j - 1)) fun y' => atI es j (rdI es j fun x' => atI es j (wrI es j y' fun es1 => atI es1 (W64 (j - 1)) (wrI es1 (W64 (j - 1)) x' fun es2 => i59 fuel κ mo k (stI59 a b i (W64 (j - 1)) es2))))))
      (o59 fuel κ mo (stO59 a b (W64 (i + 1)) es))) none))) (o59 fuel κ mo (stO59 a b (W64 (i + 1)) es)) := by kernel_rfl

theorem ord_row : Ord3 cR := ord_finding.on fiRow
/-- two neighbours change places -/
theorem swapB {α : Type} {A C : List (List D)} {y x : List D} {p q : Int} (hp : p = (A.length : Nat)) (hq : q = ((A.length + 1 : Nat) : Int)) (hx : x.length = 6) (hy : y.length = 6) (K : List (List D) → Option α) :
    atI (A ++ y :: x :: C) p (rdI (A ++ y :: x :: C) p fun y' => atI (A ++ y :: x :: C) q (rdI (A ++ y :: x :: C) q fun x' => atI (A ++ y :: x :: C) q (wrI (A ++ y :: x :: C) q y' fun es1 => atI es1 p (wrI es1 p x' K)))) = K (A ++ x :: y :: C) := by
  have e1 : A ++ y :: x :: C = (A ++ [y]) ++ x :: C := by simp
  have e2 : (A ++ [y]) ++ y :: C = A ++ y :: y :: C := by simp
  have l1 : (A ++ [y]).length = A.length + 1 := by simp
  have r1 : ∀ K : List D → Option α, rdI (A ++ y :: x :: C) q K = K x := fun K => by rw [e1]; exact rdI_eq (by rw [l1]; exact hq) K
  have w1 : ∀ (r : List D) (hr : r.length = 6) (K : List (List D) → Option α), wrI (A ++ y :: x :: C) q r K = K (A ++ y :: r :: C) := fun r hr K => by
    rw [e1, wrI_eq (by rw [l1]; exact hq) hx hr]
    simp
  rw [atI_eq hp (by simp), rdI_eq hp, atI_eq hq (by simp), r1, atI_eq hq (by simp), w1 y hy, atI_eq hp (by simp), wrI_eq hp hy hx]
theorem rounds59 {α : Type} (fuel mo : Nat) (κ : T → Heap → Option α) (a b i : Int) (L R : List (List D)) (x : List D) (hx : okRow x = true) (ha : a = (L.length : Nat)) : ∀ (k : Nat) (A B : List (List D)), okR A → okR B → sortedR (A ++ B) → (∀ r ∈ B, cR x r < 0) →
    (L ++ (A ++ x :: B) ++ R).length < 1000000 → A.length < k →
    ∃ M', M'.Perm (x :: (A ++ B)) ∧ sortedR M' ∧ i59 fuel κ mo k (stI59 a b i ((L.length + A.length : Nat) : Int) (L ++ (A ++ x :: B) ++ R)) = o59 fuel κ mo (stO59 a b (W64 (i + 1)) (L ++ M' ++ R))
  | 0, A, B, _, _, _, _, _, h => by omega
  | k + 1, A, B, hA, hB, hs, hlt, hn, hk => by
    rw [stepI59]
    have o := ord_row
    simp only [List.length_append, List.length_cons] at hn
    rcases List.eq_nil_or_concat A with rfl | ⟨A', y, rfl⟩
    · have c : decide (((L.length + ([] : List (List D)).length : Nat) : Int) > a) = false := by simp [ha]
      rw [c]
      refine ⟨x :: B, by simp, ?_, rfl⟩
      simp only [List.nil_append] at hs
      exact List.pairwise_cons.2 ⟨fun r hr => by have := hlt r hr; omega, hs⟩
    · simp only [List.concat_eq_append, List.length_append, List.length_cons, List.length_nil] at hn hk hA hs ⊢
      have hyk : okRow y = true := hA y (by simp)
      have c : decide (((L.length + (A'.length + (0 + 1)) : Nat) : Int) > a) = true := by rw [ha]; simp; omega
      have e : L ++ (A' ++ [y] ++ x :: B) ++ R = (L ++ A') ++ y :: x :: (B ++ R) := by simp
      have ej : ((L.length + (A'.length + (0 + 1)) : Nat) : Int) = (((L ++ A').length + 1 : Nat) : Int) := by simp; omega
      have wj : W64 (((L.length + (A'.length + (0 + 1)) : Nat) : Int) - 1) = (((L ++ A').length : Nat) : Int) := by rw [w64_id (by omega) (by omega)]; simp; omega
      have r1 : ∀ K : List D → Option α, rdI ((L ++ A') ++ y :: x :: (B ++ R)) (((L ++ A').length + 1 : Nat) : Int) K = K x := fun K => by
        have e1 : (L ++ A') ++ y :: x :: (B ++ R) = ((L ++ A') ++ [y]) ++ x :: (B ++ R) := by simp
        rw [e1]
        exact rdI_eq (by simp; omega) K
      rw [c, e, wj, ej]
      simp only [br]
      rw [atI_eq rfl (by simp; omega), r1, atI_eq rfl (by simp), rdI_eq rfl, hx, hyk]
      simp only [Bool.and_self]
      by_cases hc : cR x y < 0
      · have d : decide (cR x y < 0) = true := by simpa using hc
        rw [d]
        simp only
        rw [swapB rfl rfl (okRow_len hx) (okRow_len hyk)]
        have e3 : L ++ A' ++ x :: y :: (B ++ R) = L ++ (A' ++ x :: (y :: B)) ++ R := by simp
        have e4 : (((L ++ A').length : Nat) : Int) = ((L.length + A'.length : Nat) : Int) := by simp
        rw [e3, e4]
        have hs2 : sortedR (A' ++ y :: B) := by simpa [sortedR] using hs
        obtain ⟨M', p1, p2, p3⟩ := rounds59 fuel mo κ a b i L R x hx ha k A' (y :: B) (fun r hr => hA r (by simp [hr])) (okR_cons.2 ⟨hyk, hB⟩) hs2 (fun r hr => by
          rcases List.mem_cons.1 hr with e | e
          · rw [e]; exact hc
          · exact hlt r e) (by simp only [List.length_append, List.length_cons]; omega) (by omega)
        exact ⟨M', by simpa using p1, p2, p3⟩
      · have d : decide (cR x y < 0) = false := by simpa using hc
        rw [d]
        refine ⟨A' ++ [y] ++ x :: B, List.perm_middle, ?_, by
          have e5 : L ++ A' ++ y :: x :: (B ++ R) = L ++ (A' ++ [y] ++ x :: B) ++ R := by simp
          rw [e5]⟩
        have hs2 := List.pairwise_append.1 hs
        refine List.pairwise_append.2 ⟨hs2.1, List.pairwise_cons.2 ⟨fun r hr => by have := hlt r hr; omega, hs2.2.1⟩, fun r hr s hs' => ?_⟩
        have hyx : cR y x ≤ 0 := by rw [o.anti x y]; omega
        have hry : cR r y ≤ 0 := by
          have h3 := (List.pairwise_append.1 hs2.1).2.2
          rcases List.mem_append.1 hr with h | h
          · exact h3 r h y (by simp)
          · simp at h; rw [h]; rw [o.refl y]; omega
        rcases List.mem_cons.1 hs' with h | h
        · rw [h]; exact o.trans r y x hry hyx
        · exact hs2.2.2 r hr s h
theorem outer59 {α : Type} (fuel : Nat) (κ : T → Heap → Option α) (a b : Int) (L R : List (List D)) (ha : a = (L.length : Nat)) (hf : (1000000 : Nat) ≤ fuel) : ∀ (m : Nat) (M1 M2 : List (List D)), okR (M1 ++ M2) → sortedR M1 → b = ((L.length + M1.length + M2.length : Nat) : Int) →
    (L ++ (M1 ++ M2) ++ R).length < 1000000 → M2.length < m →
    ∃ M', M'.Perm (M1 ++ M2) ∧ sortedR M' ∧ o59 fuel κ m (stO59 a b ((L.length + M1.length : Nat) : Int) (L ++ (M1 ++ M2) ++ R)) = κ unitT (hpS (L ++ M' ++ R))
  | 0, M1, M2, _, _, _, _, h => by omega
  | m + 1, M1, [], hok, hs, hb, hn, _ => by
    rw [stepO59]
    have c : decide (((L.length + M1.length : Nat) : Int) < b) = false := by rw [hb]; simp
    rw [c]
    exact ⟨M1, by simp, hs, by simp [br]⟩
  | m + 1, M1, x :: M2, hok, hs, hb, hn, hm => by
    rw [stepO59]
    have c : decide (((L.length + M1.length : Nat) : Int) < b) = true := by rw [hb]; simp; omega
    rw [c]
    simp only [br]
    simp only [okR_app, okR_cons] at hok
    simp only [List.length_append, List.length_cons] at hn hm
    have e : L ++ (M1 ++ x :: M2) ++ R = L ++ (M1 ++ x :: []) ++ (M2 ++ R) := by simp
    obtain ⟨M', p1, p2, p3⟩ := rounds59 fuel m κ a b ((L.length + M1.length : Nat) : Int) L (M2 ++ R) x hok.2.1 ha fuel M1 [] hok.1 (fun r hr => by simp at hr) (by simpa using hs) (fun r hr => by simp at hr)
      (by simp only [List.length_append, List.length_cons, List.length_nil]; omega) (by omega)
    rw [e, p3]
    have hl := p1.length_eq
    simp only [List.append_nil, List.length_cons] at hl p1
    have wi : W64 (((L.length + M1.length : Nat) : Int) + 1) = ((L.length + M'.length : Nat) : Int) := by rw [w64_id (by omega) (by omega)]; omega
    have e2 : L ++ M' ++ (M2 ++ R) = L ++ (M' ++ M2) ++ R := by simp
    rw [wi, e2]
    obtain ⟨M'', q1, q2, q3⟩ := outer59 fuel κ a b L R ha hf m M' M2 (okR_app.2 ⟨okR_perm p1.symm (okR_cons.2 ⟨hok.2.1, hok.1⟩), hok.2.2⟩) p2 (by rw [hb]; congr 1; simp only [List.length_cons]; omega) (by simp only [List.length_append]; omega) (by omega)
    refine ⟨M'', q1.trans ?_, q2, q3⟩
    have : (M' ++ M2).Perm ((x :: M1) ++ M2) := p1.append_right M2
    exact this.trans List.perm_middle.symm
theorem insert_leaves {L M R : List (List D)} (hok : okR (L ++ M ++ R)) (hn : (L ++ M ++ R).length < 1000000) : ∃ es', Leaves 59 [(L.length : Nat), ((L.length + M.length : Nat) : Int)] (L ++ M ++ R) es' := by
  simp only [okR_app] at hok
  have hn' := hn
  simp only [List.length_append] at hn'
  match M, hok, hn, hn' with
  | [], hok, hn, hn' =>
    refine ⟨L ++ [] ++ R, leave_of (keeps := keep59) (fuel := 1000000) ?_, ?_⟩
    · refine (start59 _ _ _ _ _).trans ?_
      rw [show (1000000 : Nat) = 999999 + 1 from rfl, stepO59, w64_id (by omega) (by omega)]
      have c : decide (((L.length : Nat) : Int) + 1 < ((L.length + ([] : List (List D)).length : Nat) : Int)) = false := by simp; omega
      rw [c]
      rfl
    · intro L' M' R' he ha hb
      have s1 : L.length = L'.length := by omega
      simp only [List.length_nil] at hb
      obtain ⟨rfl, rfl, rfl⟩ := split3 he s1 (by simp only [List.length_nil]; omega)
      exact ⟨[], .refl _, .nil, rfl⟩
  | x :: M, hok, hn, hn' =>
    obtain ⟨M', p1, p2, p3⟩ := outer59 1000000 (heapK (hpS (L ++ x :: M ++ R)) fun r h ws => some (r, h, ws)) (L.length : Nat) ((L.length + (x :: M).length : Nat) : Int) L R rfl (Nat.le_refl _) 1000000 [x] M (by simpa using hok.1.2) (by simp [sortedR])
      (by simp only [List.length_cons, List.length_nil]; omega) (by simp only [List.length_append, List.length_cons, List.length_nil] at hn' ⊢; omega) (by simp only [List.length_cons] at hn'; omega)
    refine ⟨L ++ M' ++ R, leave_of (keeps := keep59) (fuel := 1000000) ?_, ?_⟩
    · refine (start59 _ _ _ _ _).trans ?_
      simp only [List.length_cons] at hn'
      have wi : W64 (((L.length : Nat) : Int) + 1) = ((L.length + [x].length : Nat) : Int) := by rw [w64_id (by omega) (by omega)]; simp
      rw [wi]
      exact p3
    · intro L' M0 R' he ha hb
      have s1 : L.length = L'.length := by omega
      obtain ⟨rfl, rfl, rfl⟩ := split3 he s1 (by omega)
      exact ⟨M', by simpa using p1, p2, rfl⟩
end Go.Ex
namespace Go.Ex
open Go.Proofs
set_option maxRecDepth 100000
/-! ### symMerge: the rounds -/
def halfI (x : Int) : Int := W64 (Int.fdiv (IntKind.u64.wrap x) 2)
theorem half_eq {x : Int} (h0 : 0 ≤ x) (h1 : x < 4611686018427387904) : halfI x = x / 2 := by
  unfold halfI
  have e : IntKind.u64.wrap x = x := by
    simp only [IntKind.wrap, IntKind.bits, IntKind.signed]
    simp
    omega
  rw [e, Int.fdiv_eq_ediv_of_nonneg _ (by omega)]
  exact w64_id (by omega) (by omega)
def keep60 (_ r : Nat) : Option Keep := match r with
  | 3 => some { tm := [0, 1, 2, 3, 4, 10, 11], ids := [], soft := true }
  | 9 => some { tm := [0, 10, 13], ids := [], soft := true }
  | 15 => some { tm := [0, 1, 2, 3, 4, 14, 15], ids := [], soft := true }
  | 21 => some { tm := [0, 14, 17], ids := [], soft := true }
  | 33 => some { tm := [0, 1, 2, 3, 4, 18, 19, 20, 21, 22], ids := [], soft := true }
  | _ => none
def stB1 (a m b i j : Int) (es : List (List D)) : St := { tm := [dataT, intT .i64 a, intT .i64 m, intT .i64 b, fn8, .any, .any, .any, .any, .any, intT .i64 i, intT .i64 j] ++ List.replicate 208 .any, h := hpS es }
def stK1 (i k : Int) (es : List (List D)) : St := { tm := [dataT, .any, .any, .any, .any, .any, .any, .any, .any, .any, intT .i64 i, .any, .any, intT .i64 k] ++ List.replicate 206 .any, h := hpS es }
def stB2 (a m b i j : Int) (es : List (List D)) : St := { tm := [dataT, intT .i64 a, intT .i64 m, intT .i64 b, fn8, .any, .any, .any, .any, .any, .any, .any, .any, .any, intT .i64 i, intT .i64 j] ++ List.replicate 204 .any, h := hpS es }
def stK2 (i k : Int) (es : List (List D)) : St := { tm := [dataT, .any, .any, .any, .any, .any, .any, .any, .any, .any, .any, .any, .any, .any, intT .i64 i, .any, .any, intT .i64 k] ++ List.replicate 202 .any, h := hpS es }
def stM (a m b mid n start r p : Int) (es : List (List D)) : St :=
  { tm := [dataT, intT .i64 a, intT .i64 m, intT .i64 b, fn8, .any, .any, .any, .any, .any, .any, .any, .any, .any, .any, .any, .any, .any, intT .i64 mid, intT .i64 n, intT .i64 start, intT .i64 r, intT .i64 p] ++ List.replicate 197 .any, h := hpS es }
noncomputable abbrev l60 {α : Type} (fuel : Nat) (κ : T → Heap → Option α) (t m : Nat) (s : St) : Option α := loopR E2 S3 (softOnly (keep60 60)) fuel 60 κ t [] m s
noncomputable def main60 {α : Type} (fuel : Nat) (κ : T → Heap → Option α) (a m b mid : Int) (es : List (List D)) : Option α :=
  br (decide (m > mid)) (l60 fuel κ 33 fuel (stM a m b mid (W64 (mid + m)) (W64 (W64 (mid + m) - b)) mid (W64 (W64 (mid + m) - 1)) es))
    (l60 fuel κ 33 fuel (stM a m b mid (W64 (mid + m)) a m (W64 (W64 (mid + m) - 1)) es))
theorem start60 {α : Type} (fuel : Nat) (a m b : Int) (es : List (List D)) (κ : T → Heap → List Nat → Option α) : (S3.next E2 keep60 fuel).heap 60 (argsOf [a, m, b]) (hpS es) κ =
    br (W64 (m - a) == 1) (l60 fuel (heapK (hpS es) κ) 3 fuel (stB1 a m b m b es)) (br (W64 (b - m) == 1) (l60 fuel (heapK (hpS es) κ) 15 fuel (stB2 a m b a m es))
      (main60 fuel (heapK (hpS es) κ) a m b (halfI (W64 (a + b))) es)) := by kernel_rfl
theorem step3 {α : Type} (fuel k : Nat) (a m b i j : Int) (es : List (List D)) (κ : T → Heap → Option α) : l60 fuel κ 3 (k + 1) (stB1 a m b i j es) =
    br (decide (i < j)) (atI es (halfI (W64 (i + j))) (rdI es (halfI (W64 (i + j))) fun x => atI es a (rdI es a fun y => br (okRow x && okRow y)
      (br (decide (cR x y < 0)) (l60 fuel κ 3 k (stB1 a m b (W64 (halfI (W64 (i + j)) + 1)) j es)) (l60 fuel κ 3 k (stB1 a m b i (halfI (W64 (i + j))) es))) none)))
      (l60 fuel κ 9 fuel (stK1 i a es)) := by kernel_rfl
theorem step9' {α : Type} (fuel k' : Nat) (i k : Int) (es : List (List D)) (κ : T → Heap → Option α) : l60 fuel κ 9 (k' + 1) (stK1 i k es) =
    br (decide (k < W64 (i - 1))) (atI es (W64 (k + 1)) (rdI es (W64 (k + 1)) fun y => atI es k (rdI es k fun x => atI es k (wrI es k y fun es1 => atI es1 (W64 (k + 1)) (wrI es1 (W64 (k + 1)) x fun es2 =>
      l60 fuel κ 9 k' (stK1 i (W64 (k + 1)) es2)))))) (κ unitT (hpS es)) := by kernel_rfl
theorem step15' {α : Type} (fuel k : Nat) (a m b i j : Int) (es : List (List D)) (κ : T → Heap → Option α) : l60 fuel κ 15 (k + 1) (stB2 a m b i j es) =
    br (decide (i < j)) (atI es m (rdI es m fun x => atI es (halfI (W64 (i + j))) (rdI es (halfI (W64 (i + j))) fun y => br (okRow x && okRow y)
      (br (!decide (cR x y < 0)) (l60 fuel κ 15 k (stB2 a m b (W64 (halfI (W64 (i + j)) + 1)) j es)) (l60 fuel κ 15 k (stB2 a m b i (halfI (W64 (i + j))) es))) none)))
      (l60 fuel κ 21 fuel (stK2 i m es)) := by kernel_rfl
theorem step21 {α : Type} (fuel k' : Nat) (i k : Int) (es : List (List D)) (κ : T → Heap → Option α) : l60 fuel κ 21 (k' + 1) (stK2 i k es) =
    br (decide (k > i)) (atI es (W64 (k - 1)) (rdI es (W64 (k - 1)) fun y => atI es k (rdI es k fun x => atI es k (wrI es k y fun es1 => atI es1 (W64 (k - 1)) (wrI es1 (W64 (k - 1)) x fun es2 =>
      l60 fuel κ 21 k' (stK2 i (W64 (k - 1)) es2)))))) (κ unitT (hpS es)) := by kernel_rfl
noncomputable def rest3 {α : Type} (κ : T → Heap → Option α) (b mid e : Int) (es : List (List D)) : Option α :=
  br (decide (mid < e)) (br (decide (e < b)) (ofCall 60 [mid, e, b] es fun es' => κ unitT (hpS es')) (κ unitT (hpS es))) (κ unitT (hpS es))
noncomputable def rest2 {α : Type} (κ : T → Heap → Option α) (a b mid start e : Int) (es : List (List D)) : Option α :=
  br (decide (a < start)) (br (decide (start < mid)) (ofCall 60 [a, start, mid] es fun es' => rest3 κ b mid e es') (rest3 κ b mid e es)) (rest3 κ b mid e es)
noncomputable def rest1 {α : Type} (κ : T → Heap → Option α) (a m b mid start e : Int) (es : List (List D)) : Option α :=
  br (decide (start < m)) (br (decide (m < e)) (ofCall 66 [start, m, e] es fun es' => rest2 κ a b mid start e es') (rest2 κ a b mid start e es)) (rest2 κ a b mid start e es)
theorem step33 {α : Type} (fuel k : Nat) (a m b mid n start r p : Int) (es : List (List D)) (κ : T → Heap → Option α) : l60 fuel κ 33 (k + 1) (stM a m b mid n start r p es) =
    br (decide (start < r)) (atI es (W64 (p - halfI (W64 (start + r)))) (rdI es (W64 (p - halfI (W64 (start + r)))) fun x => atI es (halfI (W64 (start + r))) (rdI es (halfI (W64 (start + r))) fun y => br (okRow x && okRow y)
      (br (!decide (cR x y < 0)) (l60 fuel κ 33 k (stM a m b mid n (W64 (halfI (W64 (start + r)) + 1)) r p es)) (l60 fuel κ 33 k (stM a m b mid n start (halfI (W64 (start + r))) p es))) none)))
      (rest1 κ a m b mid start (W64 (n - start)) es) := by kernel_rfl
end Go.Ex
namespace Go.Ex
open Go.Proofs
set_option maxRecDepth 100000
/-! ### symMerge: what it leaves -/
theorem bsearch {X : Type} (F : Nat → Nat → Nat → Option X) (E : Nat → Option X) (p : Nat → Bool) (lo hi : Nat) (mono : ∀ k k', lo ≤ k → k ≤ k' → k' < hi → p k' = true → p k = true)
    (hstep : ∀ n i j, lo ≤ i → i < j → j ≤ hi → F (n + 1) i j = br (p ((i + j) / 2)) (F n ((i + j) / 2 + 1) j) (F n i ((i + j) / 2))) (hend : ∀ n i, lo ≤ i → i ≤ hi → F (n + 1) i i = E i) :
    ∀ n i j, lo ≤ i → i ≤ j → j ≤ hi → j - i < n → (∀ k, lo ≤ k → k < i → p k = true) → (∀ k, j ≤ k → k < hi → p k = false) →
      ∃ r, i ≤ r ∧ r ≤ j ∧ F n i j = E r ∧ (∀ k, lo ≤ k → k < r → p k = true) ∧ (∀ k, r ≤ k → k < hi → p k = false)
  | 0, i, j, _, _, _, h, _, _ => by omega
  | n + 1, i, j, h1, h2, h3, h4, h5, h6 => by
    by_cases he : i = j
    · subst he
      exact ⟨i, Nat.le_refl _, Nat.le_refl _, hend n i h1 h3, h5, h6⟩
    · rw [hstep n i j h1 (by omega) h3]
      cases hp : p ((i + j) / 2) with
      | true =>
        obtain ⟨r, r1, r2, r3, r4, r5⟩ := bsearch F E p lo hi mono hstep hend n ((i + j) / 2 + 1) j (by omega) (by omega) h3 (by omega) (fun k k1 k2 => mono k ((i + j) / 2) k1 (by omega) (by omega) hp) h6
        exact ⟨r, by omega, r2, r3, r4, r5⟩
      | false =>
        obtain ⟨r, r1, r2, r3, r4, r5⟩ := bsearch F E p lo hi mono hstep hend n i ((i + j) / 2) h1 (by omega) (by omega) (by omega) h5 (fun k k1 k2 => by
          cases hk : p k with
          | false => rfl
          | true =>
            rw [mono ((i + j) / 2) k (by omega) k1 k2 hk] at hp
            cases hp)
        exact ⟨r, r1, by omega, r3, r4, r5⟩

theorem rdK {α : Type} {es : List (List D)} {i : Int} {k : Nat} (hi : i = k) (hk : k < es.length) (K : List D → Option α) : rdI es i K = K (es.getD k []) := by
  subst hi
  have h1 : Nat.blt ((k : Nat) : Int).toNat es.length = true := by simp [Nat.blt_eq]; exact hk
  unfold rdI
  rw [h1]
  rfl
theorem rowD_lt {A : List (List D)} {k : Nat} (h : k < A.length) : A.getD k [] = A[k] := by
  simp [List.getD, h]
theorem ok_get {es : List (List D)} (h : okR es) {k : Nat} (hk : k < es.length) : okRow (es.getD k []) = true := by
  rw [rowD_lt hk]
  exact h _ (List.getElem_mem hk)
theorem get_mid {L A R : List (List D)} {k : Nat} (h : k < A.length) : (L ++ A ++ R).getD (L.length + k) [] = A.getD k [] := by
  rw [List.append_assoc, List.getD, List.getElem?_append_right (by omega), Nat.add_sub_cancel_left, List.getElem?_append_left h]
  rfl
theorem sorted_get {A : List (List D)} (h : sortedR A) {i j : Nat} (hij : i ≤ j) (hj : j < A.length) : cR (A.getD i []) (A.getD j []) ≤ 0 := by
  rcases Nat.lt_or_eq_of_le hij with hl | he
  · rw [rowD_lt hj, rowD_lt (by omega)]
    exact (List.pairwise_iff_getElem.1 h) i j (by omega) hj hl
  · subst he
    rw [ord_row.refl]
    omega
theorem mem_takeR {A : List (List D)} {t : Nat} {r : List D} (h : r ∈ A.take t) : ∃ i, i < t ∧ i < A.length ∧ A.getD i [] = r := by
  obtain ⟨i, hi, he⟩ := List.mem_iff_getElem.1 h
  simp only [List.length_take] at hi
  refine ⟨i, by omega, by omega, ?_⟩
  rw [rowD_lt (by omega), ← he, List.getElem_take]
theorem mem_dropR {A : List (List D)} {t : Nat} {r : List D} (h : r ∈ A.drop t) : ∃ i, t ≤ i ∧ i < A.length ∧ A.getD i [] = r := by
  obtain ⟨i, hi, he⟩ := List.mem_iff_getElem.1 h
  simp only [List.length_drop] at hi
  refine ⟨t + i, by omega, by omega, ?_⟩
  rw [rowD_lt (by omega), ← he, List.getElem_drop]
theorem half_nat {i j : Nat} (h : i + j < 4000000) : halfI (W64 ((i : Int) + (j : Int))) = (((i + j) / 2 : Nat) : Int) := by
  rw [w64_id (by omega) (by omega), half_eq (by omega) (by omega)]
  omega
theorem cmp_le {x y : List D} : ¬ cR x y < 0 ↔ cR y x ≤ 0 := by
  have := ord_row.anti x y
  omega
theorem cmp_lt {x y : List D} (h : cR x y < 0) : cR x y ≤ 0 := by omega

theorem rounds60 {α : Type} (fuel : Nat) (κ : T → Heap → Option α) (i : Int) (x : List D) (hx : okRow x = true) (Q : List (List D)) : ∀ (C P : List (List D)) (n : Nat), okR C → i = ((P.length + C.length + 1 : Nat) : Int) → (P ++ x :: (C ++ Q)).length < 1000000 → C.length < n →
    l60 fuel κ 9 n (stK1 i (P.length : Nat) (P ++ x :: (C ++ Q))) = κ unitT (hpS (P ++ C ++ x :: Q))
  | _, _, 0, _, _, _, h => by omega
  | [], P, n + 1, hC, hi, hl, _ => by
    rw [step9']
    simp only [List.length_append, List.length_cons, List.length_nil] at hl hi
    have c : decide (((P.length : Nat) : Int) < W64 (i - 1)) = false := by rw [hi, w64_id (by omega) (by omega)]; simp
    rw [c]
    simp [br]
  | y :: C, P, n + 1, hC, hi, hl, hn => by
    rw [step9']
    simp only [List.length_append, List.length_cons] at hl hi hn
    have c : decide (((P.length : Nat) : Int) < W64 (i - 1)) = true := by rw [hi, w64_id (by omega) (by omega)]; simp; omega
    have w : W64 (((P.length : Nat) : Int) + 1) = ((P.length + 1 : Nat) : Int) := by rw [w64_id (by omega) (by omega)]; omega
    have hy := okR_cons.1 hC
    have e : P ++ x :: (y :: C ++ Q) = P ++ x :: ([] ++ y :: (C ++ Q)) := by simp
    rw [c, e, w]
    simp only [br]
    rw [swapA rfl (by simp) (okRow_len hx) (okRow_len hy.1)]
    have e2 : P ++ y :: ([] ++ x :: (C ++ Q)) = (P ++ [y]) ++ x :: (C ++ Q) := by simp
    have e3 : ((P.length + 1 : Nat) : Int) = (((P ++ [y]).length : Nat) : Int) := by simp
    rw [e2, e3, rounds60 fuel κ i x hx Q C (P ++ [y]) n hy.2 (by rw [hi]; congr 1; simp; omega) (by simp only [List.length_append, List.length_cons, List.length_nil]; omega) (by omega)]
    simp
theorem rounds21 {α : Type} (fuel : Nat) (κ : T → Heap → Option α) (P : List (List D)) (x : List D) (hx : okRow x = true) : ∀ (n : Nat) (C Q : List (List D)), okR C → (P ++ C ++ x :: Q).length < 1000000 → C.length < n →
    l60 fuel κ 21 n (stK2 (P.length : Nat) ((P.length + C.length : Nat) : Int) (P ++ C ++ x :: Q)) = κ unitT (hpS (P ++ x :: (C ++ Q)))
  | 0, _, _, _, _, h => by omega
  | n + 1, C, Q, hC, hl, hn => by
    rw [step21]
    rcases List.eq_nil_or_concat C with rfl | ⟨C', y, rfl⟩
    · have c : decide (((P.length + ([] : List (List D)).length : Nat) : Int) > ((P.length : Nat) : Int)) = false := by simp
      rw [c]
      simp [br]
    · simp only [List.concat_eq_append] at hC hl hn ⊢
      simp only [List.length_append, List.length_cons, List.length_nil] at hl hn
      have hy : okRow y = true := hC y (by simp)
      have c : decide (((P.length + (C' ++ [y]).length : Nat) : Int) > ((P.length : Nat) : Int)) = true := by simp; omega
      have w : W64 (((P.length + (C' ++ [y]).length : Nat) : Int) - 1) = (((P ++ C').length : Nat) : Int) := by
        rw [w64_id (by omega) (by simp; omega)]
        simp
        omega
      have e : P ++ (C' ++ [y]) ++ x :: Q = (P ++ C') ++ y :: x :: Q := by simp
      rw [c, e, w]
      simp only [br]
      rw [swapB rfl (by simp; omega) (okRow_len hx) (okRow_len hy)]
      have e2 : P ++ C' ++ x :: y :: Q = P ++ C' ++ x :: (y :: Q) := rfl
      have e3 : (((P ++ C').length : Nat) : Int) = ((P.length + C'.length : Nat) : Int) := by simp
      rw [e3, rounds21 fuel κ P x hx n C' (y :: Q) (fun r hr => hC r (by simp [hr])) (by simp only [List.length_append, List.length_cons]; omega) (by omega)]
      simp
end Go.Ex
namespace Go.Ex
open Go.Proofs
set_option maxRecDepth 100000
theorem sorted_ins {P Q : List (List D)} {x : List D} (h : sortedR (P ++ Q)) (h1 : ∀ y ∈ P, cR y x ≤ 0) (h2 : ∀ y ∈ Q, cR x y ≤ 0) : sortedR (P ++ x :: Q) := by
  have hh := List.pairwise_append.1 h
  refine List.pairwise_append.2 ⟨hh.1, List.pairwise_cons.2 ⟨h2, hh.2.1⟩, fun r hr s hs => ?_⟩
  rcases List.mem_cons.1 hs with e | e
  · rw [e]; exact h1 r hr
  · exact hh.2.2 r hr s e
theorem one_left {α : Type} (fuel : Nat) (κ : T → Heap → Option α) {L B R es : List (List D)} {x : List D} {a m b : Int} (he : es = L ++ [x] ++ B ++ R) (hok : okR es) (hs : sortedR B) (hn : es.length < 1000000) (hf : 1000000 ≤ fuel)
    (ha : a = (L.length : Nat)) (hm : m = ((L.length + 1 : Nat) : Int)) (hb : b = ((L.length + 1 + B.length : Nat) : Int)) :
    ∃ M', M'.Perm (x :: B) ∧ sortedR M' ∧ l60 fuel κ 3 fuel (stB1 a m b m b es) = κ unitT (hpS (L ++ M' ++ R)) := by
  have hl : es.length = L.length + 1 + B.length + R.length := by rw [he]; simp; omega
  have gx : es.getD L.length [] = x := by
    rw [he, List.append_assoc]
    exact get_mid (L := L) (A := [x]) (k := 0) (by simp)
  have gB : ∀ k, k < B.length → es.getD (L.length + 1 + k) [] = B.getD k [] := fun k hk => by
    rw [he, ← get_mid (L := L ++ [x]) (R := R) hk]
    simp
  have hx : okRow x = true := by rw [← gx]; exact ok_get hok (by omega)
  obtain ⟨r, r1, r2, r3, r4, r5⟩ := bsearch (fun n i j => l60 fuel κ 3 n (stB1 a m b (i : Nat) (j : Nat) es)) (fun i => l60 fuel κ 9 fuel (stK1 (i : Nat) (L.length : Nat) es)) (fun k => decide (cR (es.getD k []) x < 0)) (L.length + 1) (L.length + 1 + B.length)
    (fun k k' h1 h2 h3 h4 => by
      simp only [decide_eq_true_eq] at h4 ⊢
      obtain ⟨u, rfl⟩ : ∃ u, k = L.length + 1 + u := ⟨k - (L.length + 1), by omega⟩
      obtain ⟨v, rfl⟩ : ∃ v, k' = L.length + 1 + v := ⟨k' - (L.length + 1), by omega⟩
      rw [gB v (by omega)] at h4
      rw [gB u (by omega)]
      refine Classical.byContradiction fun h => ?_
      have h5 := ord_row.trans _ _ _ (cmp_le.1 h) (sorted_get hs (i := u) (j := v) (by omega) (by omega))
      exact absurd h4 (cmp_le.2 h5))
    (fun n i j h1 h2 h3 => by
      refine (step3 _ _ _ _ _ _ _ _ _).trans ?_
      have c : decide (((i : Nat) : Int) < ((j : Nat) : Int)) = true := by simp; omega
      rw [c, half_nat (by omega)]
      simp only [br]
      rw [atI_eq rfl (by omega), rdK rfl (by omega), atI_eq ha (by omega), rdK ha (by omega), gx, ok_get hok (by omega), hx, w64_id (by omega) (by omega)]
      rfl)
    (fun n i h1 h2 => by
      refine (step3 _ _ _ _ _ _ _ _ _).trans ?_
      have c : decide (((i : Nat) : Int) < ((i : Nat) : Int)) = false := by simp
      rw [c, ha]
      rfl)
    fuel (L.length + 1) (L.length + 1 + B.length) (Nat.le_refl _) (by omega) (Nat.le_refl _) (by omega) (fun k h1 h2 => by omega) (fun k h1 h2 => by omega)
  obtain ⟨t, rfl⟩ : ∃ t, r = L.length + 1 + t := ⟨r - (L.length + 1), by omega⟩
  have l1 : (B.take t).length = t := by simp; omega
  refine ⟨B.take t ++ x :: B.drop t, ?_, ?_, ?_⟩
  · have := List.perm_middle (a := x) (l₁ := B.take t) (l₂ := B.drop t)
    rwa [List.take_append_drop] at this
  · refine sorted_ins (by rw [List.take_append_drop]; exact hs) (fun y hy => ?_) (fun y hy => ?_)
    · obtain ⟨i, i1, i2, rfl⟩ := mem_takeR hy
      have := r4 (L.length + 1 + i) (by omega) (by omega)
      rw [gB i i2] at this
      simp only [decide_eq_true_eq] at this
      exact cmp_lt this
    · obtain ⟨i, i1, i2, rfl⟩ := mem_dropR hy
      have := r5 (L.length + 1 + i) (by omega) (by omega)
      rw [gB i i2] at this
      simp only [decide_eq_false_iff_not] at this
      exact cmp_le.1 this
  · rw [hm, hb]
    rw [hm, hb] at r3
    refine Eq.trans r3 ?_
    have e1 : es = L ++ x :: (B.take t ++ (B.drop t ++ R)) := by
      rw [← List.append_assoc, List.take_append_drop, he]
      simp
    have hok2 : okR (B.take t) := fun r hr => hok r (by rw [he]; simp [List.mem_of_mem_take hr])
    rw [e1, rounds60 fuel κ _ x hx (B.drop t ++ R) (B.take t) L fuel hok2 (by rw [l1]; congr 1; omega) (by rw [← e1]; exact hn) (by omega)]
    simp
theorem one_right {α : Type} (fuel : Nat) (κ : T → Heap → Option α) {L A R es : List (List D)} {x : List D} {a m b : Int} (he : es = L ++ A ++ [x] ++ R) (hok : okR es) (hs : sortedR A) (hn : es.length < 1000000) (hf : 1000000 ≤ fuel)
    (ha : a = (L.length : Nat)) (hm : m = ((L.length + A.length : Nat) : Int)) :
    ∃ M', M'.Perm (A ++ [x]) ∧ sortedR M' ∧ l60 fuel κ 15 fuel (stB2 a m b a m es) = κ unitT (hpS (L ++ M' ++ R)) := by
  have hl : es.length = L.length + A.length + 1 + R.length := by rw [he]; simp; omega
  have gx : es.getD (L.length + A.length) [] = x := by
    rw [he]
    simp
  have gA : ∀ k, k < A.length → es.getD (L.length + k) [] = A.getD k [] := fun k hk => by
    rw [he, List.append_assoc]
    exact get_mid hk
  have hx : okRow x = true := by rw [← gx]; exact ok_get hok (by omega)
  obtain ⟨r, r1, r2, r3, r4, r5⟩ := bsearch (fun n i j => l60 fuel κ 15 n (stB2 a m b (i : Nat) (j : Nat) es)) (fun i => l60 fuel κ 21 fuel (stK2 (i : Nat) ((L.length + A.length : Nat) : Int) es)) (fun k => !decide (cR x (es.getD k []) < 0)) L.length (L.length + A.length)
    (fun k k' h1 h2 h3 h4 => by
      simp only [Bool.not_eq_true', decide_eq_false_iff_not] at h4 ⊢
      obtain ⟨u, rfl⟩ : ∃ u, k = L.length + u := ⟨k - L.length, by omega⟩
      obtain ⟨v, rfl⟩ : ∃ v, k' = L.length + v := ⟨k' - L.length, by omega⟩
      rw [gA v (by omega)] at h4
      rw [gA u (by omega)]
      exact cmp_le.2 (ord_row.trans _ _ _ (sorted_get hs (i := u) (j := v) (by omega) (by omega)) (cmp_le.1 h4)))
    (fun n i j h1 h2 h3 => by
      refine (step15' _ _ _ _ _ _ _ _ _).trans ?_
      have c : decide (((i : Nat) : Int) < ((j : Nat) : Int)) = true := by simp; omega
      rw [c, half_nat (by omega)]
      simp only [br]
      rw [atI_eq hm (by omega), rdK hm (by omega), atI_eq rfl (by omega), rdK rfl (by omega), gx, hx, ok_get hok (by omega), w64_id (by omega) (by omega)]
      rfl)
    (fun n i h1 h2 => by
      refine (step15' _ _ _ _ _ _ _ _ _).trans ?_
      have c : decide (((i : Nat) : Int) < ((i : Nat) : Int)) = false := by simp
      rw [c, hm]
      rfl)
    fuel L.length (L.length + A.length) (Nat.le_refl _) (by omega) (Nat.le_refl _) (by omega) (fun k h1 h2 => by omega) (fun k h1 h2 => by omega)
  obtain ⟨t, rfl⟩ : ∃ t, r = L.length + t := ⟨r - L.length, by omega⟩
  have l1 : (A.take t).length = t := by simp; omega
  have l2 : (A.drop t).length = A.length - t := by simp
  refine ⟨A.take t ++ x :: A.drop t, ?_, ?_, ?_⟩
  · have := List.perm_middle (a := x) (l₁ := A.take t) (l₂ := A.drop t)
    rw [List.take_append_drop] at this
    exact this.trans (List.perm_append_singleton x A).symm
  · refine sorted_ins (by rw [List.take_append_drop]; exact hs) (fun y hy => ?_) (fun y hy => ?_)
    · obtain ⟨i, i1, i2, rfl⟩ := mem_takeR hy
      have := r4 (L.length + i) (by omega) (by omega)
      rw [gA i i2] at this
      simp only [Bool.not_eq_true', decide_eq_false_iff_not] at this
      exact cmp_le.1 this
    · obtain ⟨i, i1, i2, rfl⟩ := mem_dropR hy
      have := r5 (L.length + i) (by omega) (by omega)
      rw [gA i i2] at this
      simp only [Bool.not_eq_false', decide_eq_true_eq] at this
      exact cmp_lt this
  · rw [ha, hm]
    rw [ha, hm] at r3
    refine Eq.trans r3 ?_
    have e1 : es = (L ++ A.take t) ++ A.drop t ++ x :: R := by
      rw [List.append_assoc L, List.take_append_drop, he]
      simp
    have hok2 : okR (A.drop t) := fun r hr => hok r (by rw [he]; simp [List.mem_of_mem_drop hr])
    have e2 : ((L.length + t : Nat) : Int) = (((L ++ A.take t).length : Nat) : Int) := by rw [List.length_append, l1]
    have e3 : ((L.length + A.length : Nat) : Int) = (((L ++ A.take t).length + (A.drop t).length : Nat) : Int) := by rw [List.length_append, l1, l2]; congr 1; omega
    rw [e1, e2, e3, rounds21 fuel κ (L ++ A.take t) x hx fuel (A.drop t) R hok2 (by rw [← e1]; exact hn) (by omega)]
    simp
end Go.Ex
namespace Go.Ex
open Go.Proofs
set_option maxRecDepth 100000
/-! ### symMerge: both sides longer -/
def MergeOK (N : Nat) : Prop := ∀ (L A B R : List (List D)), A.length + B.length ≤ N → 0 < A.length → 0 < B.length → sortedR A → sortedR B → okR (L ++ A ++ B ++ R) → (L ++ A ++ B ++ R).length < 1000000 →
  ∃ es', Leaves 60 [(L.length : Nat), ((L.length + A.length : Nat) : Int), ((L.length + A.length + B.length : Nat) : Int)] (L ++ A ++ B ++ R) es'
theorem merge_call {N : Nat} (H : MergeOK N) {L A B R : List (List D)} {a m b : Int} (hN : A.length + B.length ≤ N) (h1 : 0 < A.length) (h2 : 0 < B.length) (hA : sortedR A) (hB : sortedR B) (hok : okR (L ++ A ++ B ++ R)) (hn : (L ++ A ++ B ++ R).length < 1000000)
    (ha : a = (L.length : Nat)) (hm : m = ((L.length + A.length : Nat) : Int)) (hb : b = ((L.length + A.length + B.length : Nat) : Int)) :
    ∃ M', M'.Perm (A ++ B) ∧ sortedR M' ∧ ∀ {α : Type} (K : List (List D) → Option α), ofCall 60 [a, m, b] (L ++ A ++ B ++ R) K = K (L ++ M' ++ R) := by
  subst ha; subst hm; subst hb
  have h := H L A B R hN h1 h2 hA hB hok hn
  obtain ⟨M', p1, p2, p3⟩ := (gdB_of h).2.2 L A B R rfl rfl rfl rfl
  exact ⟨M', p1, p2, fun K => by rw [ofCall_eq h, p3]⟩
theorem merge_may {N : Nat} (H : MergeOK N) {L A B R : List (List D)} {a m b : Int} (hN : A.length + B.length ≤ N) (hA : sortedR A) (hB : sortedR B) (hok : okR (L ++ A ++ B ++ R)) (hn : (L ++ A ++ B ++ R).length < 1000000)
    (ha : a = (L.length : Nat)) (hm : m = ((L.length + A.length : Nat) : Int)) (hb : b = ((L.length + A.length + B.length : Nat) : Int)) :
    ∃ M', M'.Perm (A ++ B) ∧ sortedR M' ∧ ∀ {α : Type} (K : List (List D) → Option α), br (decide (a < m)) (br (decide (m < b)) (ofCall 60 [a, m, b] (L ++ A ++ B ++ R) K) (K (L ++ A ++ B ++ R))) (K (L ++ A ++ B ++ R)) = K (L ++ M' ++ R) := by
  by_cases h1 : 0 < A.length
  · by_cases h2 : 0 < B.length
    · obtain ⟨M', p1, p2, p3⟩ := merge_call H hN h1 h2 hA hB hok hn ha hm hb
      refine ⟨M', p1, p2, fun K => ?_⟩
      have c1 : decide (a < m) = true := by simp; omega
      have c2 : decide (m < b) = true := by simp; omega
      rw [c1, c2, p3]
      rfl
    · have e : B = [] := List.eq_nil_of_length_eq_zero (by omega)
      subst e
      refine ⟨A, by simp, hA, fun K => ?_⟩
      have c2 : decide (m < b) = false := by simp at hb ⊢; omega
      rw [c2]
      cases decide (a < m) <;> simp [br]
  · have e : A = [] := List.eq_nil_of_length_eq_zero (by omega)
    subst e
    refine ⟨B, by simp, hB, fun K => ?_⟩
    have c1 : decide (a < m) = false := by simp at hm ⊢; omega
    rw [c1]
    simp [br]
theorem rotate_may {α : Type} {L X Y R : List (List D)} {a m b : Int} (hok : okR (L ++ X ++ Y ++ R)) (hn : (L ++ X ++ Y ++ R).length < 1000000) (ha : a = (L.length : Nat)) (hm : m = ((L.length + X.length : Nat) : Int)) (hb : b = ((L.length + X.length + Y.length : Nat) : Int)) (K : List (List D) → Option α) :
    br (decide (a < m)) (br (decide (m < b)) (ofCall 66 [a, m, b] (L ++ X ++ Y ++ R) K) (K (L ++ X ++ Y ++ R))) (K (L ++ X ++ Y ++ R)) = K (L ++ Y ++ X ++ R) := by
  by_cases h1 : 0 < X.length
  · by_cases h2 : 0 < Y.length
    · have c1 : decide (a < m) = true := by simp; omega
      have c2 : decide (m < b) = true := by simp; omega
      rw [c1, c2]
      simp only [br]
      subst ha; subst hm; subst hb
      have h := rotate_leaves hok hn h1 h2
      rw [ofCall_eq h, (gdB_of h).2.2 L X Y R rfl rfl rfl rfl]
    · have e : Y = [] := List.eq_nil_of_length_eq_zero (by omega)
      subst e
      have c2 : decide (m < b) = false := by simp at hb ⊢; omega
      rw [c2]
      cases decide (a < m) <;> simp [br]
  · have e : X = [] := List.eq_nil_of_length_eq_zero (by omega)
    subst e
    have c1 : decide (a < m) = false := by simp at hm ⊢; omega
    rw [c1]
    simp [br]
theorem search33 {α : Type} (fuel : Nat) (κ : T → Heap → Option α) {es : List (List D)} {a m b : Int} {la lm lb mid : Nat} (ha : a = (la : Nat)) (hm : m = (lm : Nat)) (hb : b = (lb : Nat)) (hmid : (la + lb) / 2 = mid) (h1 : la < lm) (h2 : lm < lb) (hlb : lb ≤ es.length)
    (hok : okR es) (hn : es.length < 1000000) (hf : 1000000 ≤ fuel)
    (oA : ∀ i j, la ≤ i → i ≤ j → j < lm → cR (es.getD i []) (es.getD j []) ≤ 0) (oB : ∀ i j, lm ≤ i → i ≤ j → j < lb → cR (es.getD i []) (es.getD j []) ≤ 0) :
    ∃ r e : Nat, la ≤ r ∧ r ≤ lm ∧ r ≤ mid ∧ mid + lm = r + e ∧ lm ≤ e ∧ e ≤ lb ∧ main60 fuel κ a m b (halfI (W64 (a + b))) es = rest1 κ a m b (mid : Nat) (r : Nat) (e : Nat) es ∧
      (la < r → e < lb → cR (es.getD (r - 1) []) (es.getD e []) ≤ 0) ∧ (r < lm → lm < e → cR (es.getD (e - 1) []) (es.getD r []) ≤ 0) := by
  obtain ⟨p, hp⟩ : ∃ p, mid + lm - 1 = p := ⟨_, rfl⟩
  have wn : W64 ((mid : Int) + m) = ((mid + lm : Nat) : Int) := by rw [hm, w64_id (by omega) (by omega)]; omega
  have wp : W64 (W64 ((mid : Int) + m) - 1) = (p : Int) := by rw [wn, w64_id (by omega) (by omega)]; omega
  have hhalf : halfI (W64 (a + b)) = ((mid : Nat) : Int) := by rw [ha, hb, half_nat (by omega), hmid]
  obtain ⟨s0, r0, hsr, hmain⟩ : ∃ s0 r0 : Nat, ((lm > mid ∧ s0 = mid + lm - lb ∧ r0 = mid) ∨ (lm ≤ mid ∧ s0 = la ∧ r0 = lm)) ∧
      main60 fuel κ a m b (halfI (W64 (a + b))) es = l60 fuel κ 33 fuel (stM a m b (mid : Nat) ((mid + lm : Nat) : Int) (s0 : Nat) (r0 : Nat) (p : Nat) es) := by
    rw [hhalf]
    by_cases hc : lm > mid
    · refine ⟨mid + lm - lb, mid, .inl ⟨hc, rfl, rfl⟩, ?_⟩
      have c : decide (m > ((mid : Nat) : Int)) = true := by rw [hm]; simp; omega
      have ws : W64 (W64 ((mid : Int) + m) - b) = ((mid + lm - lb : Nat) : Int) := by rw [wn, hb, w64_id (by omega) (by omega)]; omega
      unfold main60
      rw [c, ws, wp, wn]
      rfl
    · refine ⟨la, lm, .inr ⟨by omega, rfl, rfl⟩, ?_⟩
      have c : decide (m > ((mid : Nat) : Int)) = false := by rw [hm]; simp; omega
      unfold main60
      rw [c, wp, wn, ← hm, ← ha]
      rfl
  rw [hmain]
  have rng : ∀ c, s0 ≤ c → c < r0 → la ≤ c ∧ c < lm ∧ lm ≤ p - c ∧ p - c < lb ∧ c ≤ p := fun c h1 h2 => by omega
  obtain ⟨r, r1, r2, r3, r4, r5⟩ := bsearch (fun n i j => l60 fuel κ 33 n (stM a m b (mid : Nat) ((mid + lm : Nat) : Int) (i : Nat) (j : Nat) (p : Nat) es)) (fun i => rest1 κ a m b (mid : Nat) (i : Nat) (W64 (((mid + lm : Nat) : Int) - (i : Nat))) es)
    (fun c => !decide (cR (es.getD (p - c) []) (es.getD c []) < 0)) s0 r0
    (fun k k' h1 h2 h3 h4 => by
      simp only [Bool.not_eq_true', decide_eq_false_iff_not] at h4 ⊢
      have q1 := rng k h1 (by omega)
      have q2 := rng k' (by omega) h3
      exact cmp_le.2 (ord_row.trans _ _ _ (oA k k' (by omega) h2 (by omega)) (ord_row.trans _ _ _ (cmp_le.1 h4) (oB (p - k') (p - k) (by omega) (by omega) (by omega)))))
    (fun n i j h1 h2 h3 => by
      refine (step33 _ _ _ _ _ _ _ _ _ _ _ _).trans ?_
      have q := rng ((i + j) / 2) (by omega) (by omega)
      have c : decide (((i : Nat) : Int) < ((j : Nat) : Int)) = true := by simp; omega
      have w : W64 (((p : Nat) : Int) - (((i + j) / 2 : Nat) : Int)) = ((p - (i + j) / 2 : Nat) : Int) := by rw [w64_id (by omega) (by omega)]; omega
      rw [c, half_nat (by omega), w]
      simp only [br]
      rw [atI_eq rfl (by omega), rdK rfl (by omega), atI_eq rfl (by omega), rdK rfl (by omega), ok_get hok (by omega), ok_get hok (by omega), w64_id (by omega) (by omega)]
      rfl)
    (fun n i h1 h2 => by
      refine (step33 _ _ _ _ _ _ _ _ _ _ _ _).trans ?_
      have c : decide (((i : Nat) : Int) < ((i : Nat) : Int)) = false := by simp
      rw [c]
      rfl)
    fuel s0 r0 (Nat.le_refl _) (by omega) (Nat.le_refl _) (by omega) (fun k h1 h2 => by omega) (fun k h1 h2 => by omega)
  have we : W64 (((mid + lm : Nat) : Int) - ((r : Nat) : Int)) = ((mid + lm - r : Nat) : Int) := by rw [w64_id (by omega) (by omega)]; omega
  refine ⟨r, mid + lm - r, by omega, by omega, by omega, by omega, by omega, by omega, ?_, fun c1 c2 => ?_, fun c1 c2 => ?_⟩
  · refine r3.trans ?_
    show rest1 κ a m b (mid : Nat) (r : Nat) (W64 (((mid + lm : Nat) : Int) - (r : Nat))) es = _
    rw [we]
  · have q := r4 (r - 1) (by omega) (by omega)
    simp only [Bool.not_eq_true', decide_eq_false_iff_not] at q
    have ep : p - (r - 1) = mid + lm - r := by omega
    rw [ep] at q
    exact cmp_le.1 q
  · have q := r5 r (by omega) (by omega)
    simp only [Bool.not_eq_false', decide_eq_true_eq] at q
    have ep : p - r = mid + lm - r - 1 := by omega
    rw [ep] at q
    exact cmp_lt q
theorem rest_eq {α : Type} {N : Nat} (H : MergeOK N) (κ : T → Heap → Option α) {L A1 A2 B1 B2 R es : List (List D)} {a m b mid s e : Int} (he : es = L ++ A1 ++ A2 ++ B1 ++ B2 ++ R) (hN1 : A1.length + B1.length ≤ N) (hN2 : A2.length + B2.length ≤ N)
    (pA1 : sortedR A1) (pA2 : sortedR A2) (pB1 : sortedR B1) (pB2 : sortedR B2) (hok : okR es) (hn : es.length < 1000000) (ha : a = (L.length : Nat)) (hm : m = ((L.length + A1.length + A2.length : Nat) : Int)) (hb : b = ((L.length + A1.length + A2.length + B1.length + B2.length : Nat) : Int))
    (hs : s = ((L.length + A1.length : Nat) : Int)) (hmid : mid = ((L.length + A1.length + B1.length : Nat) : Int)) (hee : e = ((L.length + A1.length + B1.length + A2.length : Nat) : Int)) :
    ∃ M1 M2, M1.Perm (A1 ++ B1) ∧ M2.Perm (A2 ++ B2) ∧ sortedR M1 ∧ sortedR M2 ∧ rest1 κ a m b mid s e es = κ unitT (hpS (L ++ M1 ++ M2 ++ R)) := by
  have e1 : es = (L ++ A1) ++ A2 ++ B1 ++ (B2 ++ R) := by rw [he]; simp
  have e2 : (L ++ A1) ++ B1 ++ A2 ++ (B2 ++ R) = L ++ A1 ++ B1 ++ (A2 ++ B2 ++ R) := by simp
  have hok' := hok
  rw [he] at hok'
  simp only [okR_app] at hok'
  obtain ⟨⟨⟨⟨⟨oL, oA1⟩, oA2⟩, oB1⟩, oB2⟩, oR⟩ := hok'
  have hl := hn
  rw [he] at hl
  simp only [List.length_append] at hl
  obtain ⟨M1, u1, u2, u3⟩ := merge_may H (L := L) (A := A1) (B := B1) (R := A2 ++ B2 ++ R) (a := a) (m := s) (b := mid) hN1 pA1 pB1
    (by simp only [okR_app]; exact ⟨⟨⟨oL, oA1⟩, oB1⟩, ⟨oA2, oB2⟩, oR⟩) (by simp only [List.length_append]; omega) ha hs hmid
  have lM1 := u1.length_eq
  simp only [List.length_append] at lM1
  have e3 : L ++ M1 ++ (A2 ++ B2 ++ R) = (L ++ M1) ++ A2 ++ B2 ++ R := by simp
  obtain ⟨M2, v1, v2, v3⟩ := merge_may H (L := L ++ M1) (A := A2) (B := B2) (R := R) (a := mid) (m := e) (b := b) hN2 pA2 pB2
    (by simp only [okR_app]; exact ⟨⟨⟨⟨oL, okR_perm u1.symm (okR_app.2 ⟨oA1, oB1⟩)⟩, oA2⟩, oB2⟩, oR⟩) (by simp only [List.length_append]; omega)
    (by rw [hmid]; congr 1; simp only [List.length_append]; omega) (by rw [hee]; congr 1; simp only [List.length_append]; omega) (by rw [hb]; congr 1; simp only [List.length_append]; omega)
  refine ⟨M1, M2, u1, v1, u2, v2, ?_⟩
  unfold rest1
  rw [e1, rotate_may (by rw [← e1]; exact hok) (by rw [← e1]; exact hn) (by rw [hs]; congr 1; simp only [List.length_append]) (by rw [hm]; congr 1; simp only [List.length_append]) (by rw [hee]; congr 1; simp only [List.length_append]; omega), e2]
  unfold rest2
  rw [u3, e3]
  unfold rest3
  rw [v3]
theorem main_eq {α : Type} {N : Nat} (H : MergeOK N) (fuel : Nat) (κ : T → Heap → Option α) {L A B R es : List (List D)} {a m b : Int} (he : es = L ++ A ++ B ++ R) (hN : A.length + B.length ≤ N + 1) (hA1 : 0 < A.length) (hB1 : 0 < B.length) (hA : sortedR A) (hB : sortedR B)
    (hok : okR es) (hn : es.length < 1000000) (hf : 1000000 ≤ fuel) (ha : a = (L.length : Nat)) (hm : m = ((L.length + A.length : Nat) : Int)) (hb : b = ((L.length + A.length + B.length : Nat) : Int)) :
    ∃ M', M'.Perm (A ++ B) ∧ sortedR M' ∧ main60 fuel κ a m b (halfI (W64 (a + b))) es = κ unitT (hpS (L ++ M' ++ R)) := by
  have hl : es.length = L.length + A.length + B.length + R.length := by rw [he]; simp only [List.length_append]
  have gA : ∀ k, k < A.length → es.getD (L.length + k) [] = A.getD k [] := fun k hk => by
    rw [he, List.append_assoc, List.append_assoc, ← List.append_assoc]
    exact get_mid hk
  have gB : ∀ k, k < B.length → es.getD (L.length + A.length + k) [] = B.getD k [] := fun k hk => by
    rw [he, ← get_mid (L := L ++ A) (R := R) hk]
    simp
  obtain ⟨lm, hlm⟩ : ∃ lm, L.length + A.length = lm := ⟨_, rfl⟩
  have oA : ∀ i j, L.length ≤ i → i ≤ j → j < L.length + A.length → cR (es.getD i []) (es.getD j []) ≤ 0 := fun i j h1 h2 h3 => by
    obtain ⟨u, rfl⟩ : ∃ u, i = L.length + u := ⟨i - L.length, by omega⟩
    obtain ⟨v, rfl⟩ : ∃ v, j = L.length + v := ⟨j - L.length, by omega⟩
    rw [gA u (by omega), gA v (by omega)]
    exact sorted_get hA (by omega) (by omega)
  have oB : ∀ i j, L.length + A.length ≤ i → i ≤ j → j < L.length + A.length + B.length → cR (es.getD i []) (es.getD j []) ≤ 0 := fun i j h1 h2 h3 => by
    obtain ⟨u, rfl⟩ : ∃ u, i = L.length + A.length + u := ⟨i - (L.length + A.length), by omega⟩
    obtain ⟨v, rfl⟩ : ∃ v, j = L.length + A.length + v := ⟨j - (L.length + A.length), by omega⟩
    rw [gB u (by omega), gB v (by omega)]
    exact sorted_get hB (by omega) (by omega)
  obtain ⟨r, e, q1, q2, q3, q4, q5, q6, q7, q8, q9⟩ := search33 fuel κ ha hm hb rfl (by omega) (by omega) (by omega) hok hn hf oA oB
  rw [q7]
  have l1 : (A.take (r - L.length)).length = r - L.length := by simp; omega
  have l2 : (A.drop (r - L.length)).length = L.length + A.length - r := by simp; omega
  have l3 : (B.take (e - lm)).length = e - lm := by simp; omega
  have l4 : (B.drop (e - lm)).length = L.length + A.length + B.length - e := by simp; omega
  have mA1 : ∀ x ∈ A.take (r - L.length), ∃ i, L.length ≤ i ∧ i < r ∧ es.getD i [] = x := fun x hx => by
    obtain ⟨i, i1, i2, i3⟩ := mem_takeR hx
    exact ⟨L.length + i, by omega, by omega, by rw [gA i i2]; exact i3⟩
  have mA2 : ∀ x ∈ A.drop (r - L.length), ∃ i, r ≤ i ∧ i < L.length + A.length ∧ es.getD i [] = x := fun x hx => by
    obtain ⟨i, i1, i2, i3⟩ := mem_dropR hx
    exact ⟨L.length + i, by omega, by omega, by rw [gA i i2]; exact i3⟩
  have mB1 : ∀ x ∈ B.take (e - lm), ∃ i, L.length + A.length ≤ i ∧ i < e ∧ es.getD i [] = x := fun x hx => by
    obtain ⟨i, i1, i2, i3⟩ := mem_takeR hx
    exact ⟨L.length + A.length + i, by omega, by omega, by rw [gB i i2]; exact i3⟩
  have mB2 : ∀ x ∈ B.drop (e - lm), ∃ i, e ≤ i ∧ i < L.length + A.length + B.length ∧ es.getD i [] = x := fun x hx => by
    obtain ⟨i, i1, i2, i3⟩ := mem_dropR hx
    exact ⟨L.length + A.length + i, by omega, by omega, by rw [gB i i2]; exact i3⟩
  have pA := hA
  have pB := hB
  rw [← List.take_append_drop (r - L.length) A] at pA
  rw [← List.take_append_drop (e - lm) B] at pB
  have pA := List.pairwise_append.1 pA
  have pB := List.pairwise_append.1 pB
  obtain ⟨M1, M2, u1, v1, u2, v2, u3⟩ := rest_eq H κ (L := L) (A1 := A.take (r - L.length)) (A2 := A.drop (r - L.length)) (B1 := B.take (e - lm)) (B2 := B.drop (e - lm)) (R := R) (a := a) (m := m) (b := b) (mid := ((L.length + (L.length + A.length + B.length)) / 2 : Nat)) (s := (r : Nat)) (e := (e : Nat))
    (by rw [he, List.append_assoc L (List.take _ _), List.take_append_drop, List.append_assoc (L ++ A) (List.take _ _), List.take_append_drop]) (by omega) (by omega) pA.1 pA.2.1 pB.1 pB.2.1 hok hn ha (by rw [hm]; congr 1; omega) (by rw [hb]; congr 1; omega) (by congr 1; omega) (by congr 1; omega) (by congr 1; omega)
  refine ⟨M1 ++ M2, ?_, ?_, by rw [u3, List.append_assoc L]⟩
  · have xA := List.take_append_drop (r - L.length) A
    have xB := List.take_append_drop (e - lm) B
    refine (u1.append v1).trans ?_
    generalize A.take (r - L.length) = A1 at xA
    generalize A.drop (r - L.length) = A2 at xA
    generalize B.take (e - lm) = B1 at xB
    generalize B.drop (e - lm) = B2 at xB
    subst xA; subst xB
    simp only [List.append_assoc]
    refine List.Perm.append_left A1 ?_
    rw [← List.append_assoc, ← List.append_assoc]
    exact List.Perm.append_right B2 List.perm_append_comm
  · refine List.pairwise_append.2 ⟨u2, v2, fun x hx y hy => ?_⟩
    have hx := List.mem_append.1 (u1.mem_iff.1 hx)
    have hy := List.mem_append.1 (v1.mem_iff.1 hy)
    rcases hx with hx | hx <;> rcases hy with hy | hy
    · exact pA.2.2 x hx y hy
    · obtain ⟨i, i1, i2, rfl⟩ := mA1 x hx
      obtain ⟨j, j1, j2, rfl⟩ := mB2 y hy
      exact ord_row.trans _ _ _ (oA i (r - 1) i1 (by omega) (by omega)) (ord_row.trans _ _ _ (q8 (by omega) (by omega)) (oB e j q5 j1 j2))
    · obtain ⟨j, j1, j2, rfl⟩ := mB1 x hx
      obtain ⟨i, i1, i2, rfl⟩ := mA2 y hy
      exact ord_row.trans _ _ _ (oB j (e - 1) j1 (by omega) (by omega)) (ord_row.trans _ _ _ (q9 (by omega) (by omega)) (oA r i (by omega) i1 i2))
    · exact pB.2.2 x hx y hy
theorem merge_ok : ∀ N, MergeOK N
  | 0 => fun L A B R h h1 h2 => by omega
  | N + 1 => fun L A B R h h1 h2 hA hB hok hn => by
    have hn' := hn
    simp only [List.length_append] at hn'
    obtain ⟨fuel, hf⟩ : ∃ f : Nat, 1000000 ≤ f := ⟨1000000, Nat.le_refl _⟩
    have key : ∀ {α : Type} (κ : T → Heap → List Nat → Option α), ∃ M', M'.Perm (A ++ B) ∧ sortedR M' ∧
        (S3.next E2 keep60 fuel).heap 60 (argsOf [(L.length : Nat), ((L.length + A.length : Nat) : Int), ((L.length + A.length + B.length : Nat) : Int)]) (hpS (L ++ A ++ B ++ R)) κ = heapK (hpS (L ++ A ++ B ++ R)) κ unitT (hpS (L ++ M' ++ R)) := fun κ => by
      rw [start60]
      have w1 : W64 (((L.length + A.length : Nat) : Int) - (L.length : Nat)) = (A.length : Nat) := by rw [w64_id (by omega) (by omega)]; omega
      have w2 : W64 (((L.length + A.length + B.length : Nat) : Int) - ((L.length + A.length : Nat) : Int)) = (B.length : Nat) := by rw [w64_id (by omega) (by omega)]; omega
      rw [w1, w2]
      by_cases c1 : A.length = 1
      · obtain ⟨x, rfl⟩ := List.length_eq_one_iff.1 c1
        have d : ((([x] : List (List D)).length : Nat) : Int) == 1 := by simp
        rw [d]
        simp only [br]
        exact one_left fuel _ rfl hok hB hn hf rfl rfl rfl
      · have d1 : (((A.length : Nat) : Int) == 1) = false := by simp; omega
        rw [d1]
        by_cases c2 : B.length = 1
        · obtain ⟨x, rfl⟩ := List.length_eq_one_iff.1 c2
          have d : ((([x] : List (List D)).length : Nat) : Int) == 1 := by simp
          rw [d]
          simp only [br]
          exact one_right fuel _ rfl hok hA hn hf rfl rfl
        · have d2 : (((B.length : Nat) : Int) == 1) = false := by simp; omega
          rw [d2]
          simp only [br]
          exact main_eq (merge_ok N) fuel _ rfl h h1 h2 hA hB hok hn hf rfl rfl rfl
    obtain ⟨M', p1, p2, p3⟩ := key fun r h ws => some (r, h, ws)
    refine ⟨L ++ M' ++ R, leave_of (keeps := keep60) (fuel := fuel) p3, ?_⟩
    intro L' A' B' R' he ha hb hc
    have s1 : L.length = L'.length := by omega
    have s2 : A.length = A'.length := by omega
    obtain ⟨rfl, rfl, rfl, rfl⟩ := split4 he s1 s2 (by omega)
    exact ⟨M', p1, p2, rfl⟩
end Go.Ex
namespace Go.Ex
open Go.Proofs
set_option maxRecDepth 100000
/-! ### stable sorting: blocks, then merges -/
def keep52 (_ r : Nat) : Option Keep := match r with
  | 2 => some { tm := [0, 1, 2, 6, 7, 8], ids := [], soft := true }
  | 7 => some { tm := [0, 1, 2, 6], ids := [], soft := true }
  | 9 => some { tm := [0, 1, 2, 6, 7, 8], ids := [], soft := true }
  | _ => none
def stA52 (n bs a b : Int) (es : List (List D)) : St := { tm := [dataT, intT .i64 n, fn8, .any, .any, .any, intT .i64 bs, intT .i64 a, intT .i64 b] ++ List.replicate 54 .any, h := hpS es }
def stO52 (n bs : Int) (es : List (List D)) : St := { tm := [dataT, intT .i64 n, fn8, .any, .any, .any, intT .i64 bs] ++ List.replicate 56 .any, h := hpS es }
noncomputable abbrev l52 {α : Type} (fuel : Nat) (κ : T → Heap → Option α) (t : Nat) (outs : List Nat) (m : Nat) (s : St) : Option α := loopR E2 S3 (softOnly (keep52 52)) fuel 52 κ t outs m s
theorem start52 {α : Type} (fuel : Nat) (n : Int) (es : List (List D)) (κ : T → Heap → List Nat → Option α) : (S3.next E2 keep52 fuel).heap 52 (argsOf [n]) (hpS es) κ = l52 fuel (heapK (hpS es) κ) 2 [] fuel (stA52 n 20 0 20 es) := by kernel_rfl
theorem stepA52 {α : Type} (fuel k : Nat) (n bs a b : Int) (es : List (List D)) (κ : T → Heap → Option α) : l52 fuel κ 2 [] (k + 1) (stA52 n bs a b es) =
    br (decide (b ≤ n)) (ofCall 59 [a, b] es fun es' => l52 fuel κ 2 [] k (stA52 n bs b (W64 (b + bs)) es')) (ofCall 59 [a, n] es fun es' => l52 fuel κ 7 [] fuel (stO52 n bs es')) := by kernel_rfl
theorem stepO52 {α : Type} (fuel k : Nat) (n bs : Int) (es : List (List D)) (κ : T → Heap → Option α) : l52 fuel κ 7 [] (k + 1) (stO52 n bs es) =
    br (decide (bs < n)) (l52 fuel κ 9 [k] fuel (stA52 n bs 0 (W64 (2 * bs)) es)) (κ unitT (hpS es)) := by kernel_rfl
theorem stepI52 {α : Type} (fuel ko k : Nat) (n bs a b : Int) (es : List (List D)) (κ : T → Heap → Option α) : l52 fuel κ 9 [ko] (k + 1) (stA52 n bs a b es) =
    br (decide (b ≤ n)) (ofCall 60 [a, W64 (a + bs), b] es fun es' => l52 fuel κ 9 [ko] k (stA52 n bs b (W64 (b + W64 (2 * bs))) es'))
      (br (decide (W64 (a + bs) < n)) (ofCall 60 [a, W64 (a + bs), n] es fun es' => l52 fuel κ 7 [] ko (stO52 n (W64 (bs * 2)) es')) (l52 fuel κ 7 [] ko (stO52 n (W64 (bs * 2)) es))) := by kernel_rfl

/-- sorted in blocks of a size -/
inductive Bl (bs : Nat) : List (List D) → Prop
  | last (l : List (List D)) (h : sortedR l) (hl : l.length ≤ bs) : Bl bs l
  | cons (X Y : List (List D)) (h : sortedR X) (hl : X.length = bs) (hY : Bl bs Y) : Bl bs (X ++ Y)
theorem Bl.small {bs : Nat} {l : List (List D)} (h : Bl bs l) (hl : l.length ≤ bs) : sortedR l := by
  cases h with
  | last _ h => exact h
  | cons X Y h hx hY =>
    simp only [List.length_append] at hl
    have : Y = [] := List.eq_nil_of_length_eq_zero (by omega)
    subst this
    simpa using h
theorem Bl.split {bs : Nat} {l : List (List D)} (h : Bl bs l) (hl : bs ≤ l.length) : ∃ X Y, l = X ++ Y ∧ X.length = bs ∧ sortedR X ∧ Bl bs Y := by
  cases h with
  | last _ h h2 => exact ⟨l, [], by simp, by omega, h, .last [] .nil (by simp)⟩
  | cons X Y h hx hY => exact ⟨X, Y, rfl, hx, h, hY⟩
theorem ins_call {L M R : List (List D)} {a b : Int} (hok : okR (L ++ M ++ R)) (hn : (L ++ M ++ R).length < 1000000) (ha : a = (L.length : Nat)) (hb : b = ((L.length + M.length : Nat) : Int)) :
    ∃ M', M'.Perm M ∧ sortedR M' ∧ ∀ {α : Type} (K : List (List D) → Option α), ofCall 59 [a, b] (L ++ M ++ R) K = K (L ++ M' ++ R) := by
  subst ha; subst hb
  have h := insert_leaves hok hn
  obtain ⟨M', p1, p2, p3⟩ := (gdB_of h).2.2 L M R rfl rfl rfl
  exact ⟨M', p1, p2, fun K => by rw [ofCall_eq h, p3]⟩
theorem loopA52 {α : Type} (fuel : Nat) (κ : T → Heap → Option α) (n : Int) : ∀ (k : Nat) (P Q : List (List D)), Q.length < k → okR (P ++ Q) → (P ++ Q).length < 1000000 → n = ((P.length + Q.length : Nat) : Int) →
    ∃ Q', Q'.Perm Q ∧ Bl 20 Q' ∧ l52 fuel κ 2 [] k (stA52 n 20 (P.length : Nat) ((P.length + 20 : Nat) : Int) (P ++ Q)) = l52 fuel κ 7 [] fuel (stO52 n 20 (P ++ Q'))
  | 0, P, Q, h, _, _, _ => by omega
  | k + 1, P, Q, h, hok, hl, hn => by
    rw [stepA52]
    have hl' := hl
    simp only [List.length_append] at hl'
    by_cases hq : 20 ≤ Q.length
    · obtain ⟨X, Y, rfl, hX⟩ : ∃ X Y, Q = X ++ Y ∧ X.length = 20 := ⟨Q.take 20, Q.drop 20, by simp, by simp; omega⟩
      simp only [List.length_append] at hq h hn hl'
      have c : decide (((P.length + 20 : Nat) : Int) ≤ n) = true := by rw [hn]; simp; omega
      have e : P ++ (X ++ Y) = P ++ X ++ Y := by simp
      rw [c, e]
      simp only [br]
      obtain ⟨X', p1, p2, p3⟩ := ins_call (L := P) (M := X) (R := Y) (a := (P.length : Nat)) (b := ((P.length + 20 : Nat) : Int)) (by rw [← e]; exact hok) (by rw [← e]; exact hl) rfl (by congr 1; omega)
      have hX' := p1.length_eq
      have w : W64 (((P.length + 20 : Nat) : Int) + 20) = (((P ++ X').length + 20 : Nat) : Int) := by rw [w64_id (by omega) (by omega)]; simp only [List.length_append]; omega
      have w2 : ((P.length + 20 : Nat) : Int) = (((P ++ X').length : Nat) : Int) := by simp only [List.length_append]; congr 1; omega
      rw [p3, w, w2]
      simp only [okR_app] at hok
      obtain ⟨Y', q1, q2, q3⟩ := loopA52 fuel κ n k (P ++ X') Y (by omega) (by simp only [okR_app]; exact ⟨⟨hok.1, okR_perm p1.symm hok.2.1⟩, hok.2.2⟩) (by simp only [List.length_append]; omega) (by rw [hn]; simp only [List.length_append]; congr 1; omega)
      refine ⟨X' ++ Y', p1.append q1, .cons X' Y' p2 (by omega) q2, ?_⟩
      rw [q3, List.append_assoc]
    · have c : decide (((P.length + 20 : Nat) : Int) ≤ n) = false := by rw [hn]; simp; omega
      have e : P ++ Q = P ++ Q ++ [] := by simp
      rw [c, e]
      simp only [br]
      obtain ⟨Q', p1, p2, p3⟩ := ins_call (L := P) (M := Q) (R := []) (a := (P.length : Nat)) (b := n) (by rw [← e]; exact hok) (by rw [← e]; exact hl) rfl hn
      rw [p3]
      exact ⟨Q', p1, .last _ p2 (by have := p1.length_eq; omega), by simp⟩
theorem loopI52 {α : Type} (fuel ko : Nat) (κ : T → Heap → Option α) (n : Int) (bs : Nat) (h0 : 0 < bs) (h1 : bs < 1000000) : ∀ (k : Nat) (P Q : List (List D)), Q.length < k → Bl bs Q → okR (P ++ Q) → (P ++ Q).length < 1000000 → n = ((P.length + Q.length : Nat) : Int) →
    ∃ Q', Q'.Perm Q ∧ Bl (2 * bs) Q' ∧ l52 fuel κ 9 [ko] k (stA52 n (bs : Nat) (P.length : Nat) ((P.length + 2 * bs : Nat) : Int) (P ++ Q)) = l52 fuel κ 7 [] ko (stO52 n ((2 * bs : Nat) : Int) (P ++ Q'))
  | 0, P, Q, h, _, _, _, _ => by omega
  | k + 1, P, Q, h, hb, hok, hl, hn => by
    rw [stepI52]
    have hl' := hl
    simp only [List.length_append] at hl'
    have wa : W64 (((P.length : Nat) : Int) + ((bs : Nat) : Int)) = ((P.length + bs : Nat) : Int) := by rw [w64_id (by omega) (by omega)]; omega
    have wb : W64 (((bs : Nat) : Int) * 2) = ((2 * bs : Nat) : Int) := by rw [w64_id (by omega) (by omega)]; omega
    have wc : W64 (2 * ((bs : Nat) : Int)) = ((2 * bs : Nat) : Int) := by rw [w64_id (by omega) (by omega)]; omega
    rw [wa, wb, wc]
    by_cases hq : 2 * bs ≤ Q.length
    · obtain ⟨X, Q1, rfl, hX, sX, hb1⟩ := hb.split (by omega)
      simp only [List.length_append] at hq h hn hl'
      obtain ⟨Y, Z, rfl, hY, sY, hb2⟩ := hb1.split (by omega)
      simp only [List.length_append] at hq h hn hl'
      have c : decide (((P.length + 2 * bs : Nat) : Int) ≤ n) = true := by rw [hn]; simp; omega
      have e : P ++ (X ++ (Y ++ Z)) = P ++ X ++ Y ++ Z := by simp
      rw [c, e]
      simp only [br]
      obtain ⟨M, p1, p2, p3⟩ := merge_call (merge_ok (X.length + Y.length)) (L := P) (A := X) (B := Y) (R := Z) (a := (P.length : Nat)) (m := ((P.length + bs : Nat) : Int)) (b := ((P.length + 2 * bs : Nat) : Int)) (Nat.le_refl _) (by omega) (by omega) sX sY (by rw [← e]; exact hok) (by rw [← e]; exact hl) rfl (by congr 1; omega) (by congr 1; omega)
      have hM := p1.length_eq
      simp only [List.length_append] at hM
      have w : W64 (((P.length + 2 * bs : Nat) : Int) + ((2 * bs : Nat) : Int)) = (((P ++ M).length + 2 * bs : Nat) : Int) := by rw [w64_id (by omega) (by omega)]; simp only [List.length_append]; omega
      have w2 : ((P.length + 2 * bs : Nat) : Int) = (((P ++ M).length : Nat) : Int) := by simp only [List.length_append]; congr 1; omega
      rw [p3, w, w2]
      simp only [okR_app] at hok
      obtain ⟨Z', q1, q2, q3⟩ := loopI52 fuel ko κ n bs h0 h1 k (P ++ M) Z (by omega) hb2 (by simp only [okR_app]; exact ⟨⟨hok.1, okR_perm p1.symm (okR_app.2 ⟨hok.2.1, hok.2.2.1⟩)⟩, hok.2.2.2⟩) (by simp only [List.length_append]; omega) (by rw [hn]; simp only [List.length_append]; congr 1; omega)
      refine ⟨M ++ Z', ?_, .cons M Z' p2 (by omega) q2, ?_⟩
      · have := p1.append q1
        rwa [List.append_assoc] at this
      · rw [q3, List.append_assoc]
    · have c : decide (((P.length + 2 * bs : Nat) : Int) ≤ n) = false := by rw [hn]; simp; omega
      rw [c]
      simp only [br]
      by_cases hq2 : bs < Q.length
      · obtain ⟨X, Y, rfl, hX, sX, hb1⟩ := hb.split (by omega)
        simp only [List.length_append] at hq hq2 h hn hl'
        have c : decide (((P.length + bs : Nat) : Int) < n) = true := by rw [hn]; simp; omega
        have e : P ++ (X ++ Y) = P ++ X ++ Y ++ [] := by simp
        rw [c, e]
        simp only
        obtain ⟨M, p1, p2, p3⟩ := merge_call (merge_ok (X.length + Y.length)) (L := P) (A := X) (B := Y) (R := []) (a := (P.length : Nat)) (m := ((P.length + bs : Nat) : Int)) (b := n) (Nat.le_refl _) (by omega) (by omega) sX (hb1.small (by omega)) (by rw [← e]; exact hok) (by rw [← e]; exact hl) rfl (by congr 1; omega) (by rw [hn]; congr 1; omega)
        have hM := p1.length_eq
        simp only [List.length_append] at hM
        rw [p3]
        exact ⟨M, p1, .last _ p2 (by omega), by simp⟩
      · have c : decide (((P.length + bs : Nat) : Int) < n) = false := by rw [hn]; simp; omega
        rw [c]
        simp only
        exact ⟨Q, .refl _, .last _ (hb.small (by omega)) (by omega), rfl⟩
theorem loopO52 {α : Type} (fuel : Nat) (κ : T → Heap → Option α) (hf : 1000000 ≤ fuel) : ∀ (k bs : Nat) (es : List (List D)), es.length < k + bs → 0 < k → Bl bs es → 0 < bs → bs < 2000000 → okR es → es.length < 1000000 →
    ∃ es', es'.Perm es ∧ sortedR es' ∧ l52 fuel κ 7 [] k (stO52 (es.length : Nat) (bs : Nat) es) = κ unitT (hpS es')
  | 0, _, _, _, h, _, _, _, _, _ => by omega
  | k + 1, bs, es, h, _, hb, h0, h1, hok, hl => by
    rw [stepO52]
    by_cases hc : bs < es.length
    · have c : decide (((bs : Nat) : Int) < ((es.length : Nat) : Int)) = true := by simpa using hc
      have w : W64 (2 * ((bs : Nat) : Int)) = ((([] : List (List D)).length + 2 * bs : Nat) : Int) := by rw [w64_id (by omega) (by omega)]; simp
      rw [c, w]
      simp only [br]
      obtain ⟨Q', p1, p2, p3⟩ := loopI52 fuel k κ (es.length : Nat) bs h0 (by omega) fuel [] es (by omega) hb (by simpa using hok) (by simpa using hl) (by simp)
      have e : ((([] : List (List D)).length : Nat) : Int) = 0 := rfl
      rw [e] at p3
      simp only [List.nil_append] at p3
      rw [p3]
      have hq := p1.length_eq
      rw [← hq]
      obtain ⟨es', q1, q2, q3⟩ := loopO52 fuel κ hf k (2 * bs) Q' (by omega) (by omega) p2 (by omega) (by omega) (okR_perm p1.symm hok) (by omega)
      exact ⟨es', q1.trans p1, q2, q3⟩
    · have c : decide (((bs : Nat) : Int) < ((es.length : Nat) : Int)) = false := by simpa using hc
      rw [c]
      exact ⟨es, .refl _, hb.small (by omega), rfl⟩
theorem stable_leaves {es : List (List D)} (hok : okR es) (hn : es.length < 1000000) : ∃ es', Leaves 52 [(es.length : Nat)] es es' := by
  obtain ⟨fuel, hf⟩ : ∃ f : Nat, 1000000 ≤ f := ⟨1000000, Nat.le_refl _⟩
  have h1 := start52 fuel (es.length : Nat) es fun r h ws => some (r, h, ws)
  obtain ⟨Q', p1, p2, p3⟩ := loopA52 fuel (heapK (hpS es) fun r h ws => some (r, h, ws)) (es.length : Nat) fuel [] es (by omega) (by simpa using hok) (by simpa using hn) (by simp)
  have hq := p1.length_eq
  obtain ⟨es', q1, q2, q3⟩ := loopO52 fuel (heapK (hpS es) fun r h ws => some (r, h, ws)) hf fuel 20 Q' (by omega) (by omega) p2 (by omega) (by omega) (okR_perm p1.symm hok) (by omega)
  rw [hq] at q3
  exact ⟨es', leave_of (keeps := keep52) (fuel := fuel) (h1.trans (p3.trans q3)), q1.trans p1, q2⟩
theorem start42 {α : Type} (fuel : Nat) (es : List (List D)) (κ : T → Heap → List Nat → Option α) : (S3.next E2 keep52 fuel).heap 42 (argsOf []) (hpS es) κ = ofCall 52 [(es.length : Nat)] es fun es' => κ unitT (hpS es') wsS := by kernel_rfl
theorem sort_leaves {es : List (List D)} (hok : okR es) (hn : es.length < 1000000) : ∃ es', Leaves 42 [] es es' := by
  have h := stable_leaves hok hn
  have h1 := start42 0 es fun r h ws => some (r, h, ws)
  rw [ofCall_eq h] at h1
  exact ⟨_, leave_of (keeps := keep52) (fuel := 0) h1, (gdB_of h).2.2⟩
end Go.Ex
