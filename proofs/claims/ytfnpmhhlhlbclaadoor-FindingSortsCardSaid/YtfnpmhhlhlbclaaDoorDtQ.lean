import Derived.Test.YtfnpmhhlhlbclaaDoorDtP
namespace Go.Ex
open Go.Proofs Go.ChangeShapes Go.WideShapes Go.ChangeAt Go.RowKit
set_option maxRecDepth 100000
theorem ty26 : (flds 26).toList.map (·.type) = [3, 23, 9, 24] := by kernel_rfl
theorem ty23 : (flds 23).toList.map (·.type) = [9, 9, 3] := by kernel_rfl
theorem b23 : Tryd.prog.bytesOf 23 = 40 := by kernel_rfl
theorem u4 : Tryd.prog.underlying 4 = some .bool := by kernel_rfl
theorem laidOut : laidOutB Tryd.prog = true := by kernel_rfl
theorem read26 : Tryd.prog.readableRec 26 = true := by kernel_rfl
theorem row26 : 26 < Tryd.prog.types.size := of_decide_eq_true (by kernel_rfl)

section
variable {H : Type} {enc : TypeId × Value → H} {W : World} {base : Nat} {spare : Nat → Bool} {held : Bool} {fuel : Nat} {cs : List Value} {x : DataW H × List MemPlace}
theorem finding_open {Z : Nat → Prop} (hZ : ∀ b, Z b) (h : DataW.trod enc Tryd.prog W base spare held fuel 26 cs = some x) :
    ∃ (f : Fi) (v5 : Value), cs = [.int .i64 f.kind, .string f.at'.c, .string f.at'.m, .int .i64 f.at'.n, .string f.what, v5] ∧ RepD W.heap Z (pathD f.nil f.path) v5 ∧ ((x.1.weights Tryd.prog 26).all (fun n => decide (n ≤ reachBytes)) = true → okNum f = true ∧ f.path.length < 1152921504606846976) := by
  obtain ⟨xs, n, _, rfl, hl, hx, hf⟩ := DataW.trod_struct u26 h
  rw [c26] at hl
  rw [n26] at hx
  match cs, hl with
  | [a, b, c, d, e, g], _ =>
  have get : ∀ i, i < 4 → ∃ y, xs[i]? = some y := fun i hi => ⟨xs[i], List.getElem?_eq_getElem (by omega)⟩
  obtain ⟨f0, hf0, t0, o0⟩ := fld_at fld26 0 rfl
  obtain ⟨f1, hf1, t1, o1⟩ := fld_at fld26 1 rfl
  obtain ⟨f2, hf2, t2, o2⟩ := fld_at fld26 2 rfl
  obtain ⟨f3, hf3, t3, o3⟩ := fld_at fld26 3 rfl
  obtain ⟨y0, hy0⟩ := get 0 (by omega)
  obtain ⟨y1, hy1⟩ := get 1 (by omega)
  obtain ⟨y2, hy2⟩ := get 2 (by omega)
  obtain ⟨y3, hy3⟩ := get 3 (by omega)
  have e0 := hf 0 f0 hf0
  have e1 := hf 1 f1 hf1
  have e2 := hf 2 f2 hf2
  have e3 := hf 3 f3 hf3
  rw [t0, o0, hy0, c3] at e0
  rw [t1, o1, hy1, c23] at e1
  rw [t2, o2, hy2, c9] at e2
  rw [t3, o3, hy3, c24] at e3
  obtain ⟨k, h0, r0, m0⟩ := DataW.trod_int u3 e0
  obtain ⟨p, h1, r1, m3⟩ := place_open e1
  obtain ⟨s, h2, r2, _⟩ := DataW.trod_string u9 e2
  simp at h0 h1 h2
  obtain ⟨rfl, rfl, rfl⟩ := h1
  subst h0; subst h2
  obtain ⟨nl, ps, v, h3, hr, r3⟩ := path_open hZ e3
  simp at h3
  subst h3
  refine ⟨⟨k, p, s, nl, ps⟩, g, rfl, hr, fun hw => ?_⟩
  match xs, hx with
  | [z0, z1, z2, z3], _ =>
  simp at hy0 hy1 hy2 hy3
  subst hy0; subst hy1; subst hy2; subst hy3
  have hm : reachBytes ≤ 1152921504606846976 := by decide
  simp only [List.map_cons, List.map_nil, r0, r1, r2, DataW.weights, DataW.weightsEach, u26, u23, ty26, ty23, List.nil_append, List.append_nil, List.all_cons, Bool.and_eq_true, decide_eq_true_eq, List.cons_append] at hw
  obtain ⟨a1, a2, a3, a4⟩ := hw
  have b1 : p.c.data.toList.length = p.c.size := by simp
  have b2 : p.m.data.toList.length = p.m.size := by simp
  have b3 : s.data.toList.length = s.size := by simp
  constructor
  · simp only [okNum, int64_of m0, m3, Bool.true_and, Bool.and_eq_true, decide_eq_true_eq]
    omega
  · rcases r3 with ⟨_, e⟩ | ⟨es, sp, e1, e2⟩
    · rw [e]; simp
    · rw [e1] at a4
      simp only [DataW.weights, u24, b23, List.all_cons, Bool.and_eq_true, decide_eq_true_eq] at a4
      have := a4.1
      simp only
      omega
end

theorem finding_arg {H : Type} {enc : TypeId × Value → H} {W : World} {base b0 : Nat} {spare : Nat → Bool} {held : Bool} {v : Value} {d : DataW H} {ps : List MemPlace} (hval : Value.okWide Tryd.prog W .any b0 26 v)
    (h : DataW.Trod enc Tryd.prog W base spare held 26 v d ps) : ∃ f : Fi, RepT (X0 W) f.t v ∧ ((d.weights Tryd.prog 26).all (fun n => decide (n ≤ reachBytes)) = true → okNum f = true) := by
  unfold Value.okWide at hval
  rw [u26] at hval
  obtain ⟨cs, rfl, _⟩ := hval
  obtain ⟨fuel, hf⟩ := h
  obtain ⟨f, v5, hcs, hr, ho⟩ := finding_open (X0_z W) hf
  refine ⟨f, ?_, fun h => (ho h).1⟩
  have hcs' : cs = #[.int .i64 f.kind, .string f.at'.c, .string f.at'.m, .int .i64 f.at'.n, .string f.what, v5] := by
    apply Array.ext'
    simpa [Value.cells] using hcs
  rw [hcs']
  refine .agg _ [.int .i64 f.kind, .string f.at'.c, .string f.at'.m, .int .i64 f.at'.n, .string f.what, v5] rfl fun j c v h1 h2 => ?_
  have hlt := (List.getElem?_eq_some_iff.1 h1).1
  match j, hlt with
  | 0, _ => cases h1; cases h2; exact .d _ _ (.v _ rfl)
  | 1, _ => cases h1; cases h2; exact .d _ _ (.v _ rfl)
  | 2, _ => cases h1; cases h2; exact .d _ _ (.v _ rfl)
  | 3, _ => cases h1; cases h2; exact .d _ _ (.v _ rfl)
  | 4, _ => cases h1; cases h2; exact .d _ _ (.v _ rfl)
  | 5, _ => cases h1; cases h2; exact .d _ _ hr

theorem boolT_val {X : Ctx} {b : Bool} {v : Value} (h : RepT X (boolT b) v) : v = .bool b := by
  cases h with | one _ _ h => cases h with | d _ _ h => cases h; rfl

/-- what old memory gives -/
theorem same_at {W W' : World} (hk : ∀ b, b < W.heap.size → W'.heap[b]? = W.heap[b]?) {p : MemPlace} (hp : p.block < W.heap.size) : W.sameAt W' p := by
  cases p with
  | cell b o => exact World.cell?_of_block (w := W) (hk b hp)
  | map b => exact hk b hp
theorem kept_of' {W W' : World} (hs : sysOf W' = sysOf W) (hk : ∀ b, b < W.heap.size → W'.heap[b]? = W.heap[b]?) (may : MemPlace → Prop) : W.keptBut W' may := by
  have h1 : W'.os = W.os := congrArg Prod.fst hs
  have h2 : W'.output = W.output := congrArg Prod.snd hs
  refine ⟨h1, h2, fun i hi => ?_⟩
  rw [hk i hi]
  cases W.heap[i]? with
  | none => trivial
  | some o => cases o <;> simp

/-- a law of two findings -/
theorem two_law {H : Type} {enc : TypeId × Value → H} (g : FuncId) (fn : Func) (hp : fn.params = #[26, 26]) (hr : fn.resultTypes = #[4]) (spec : ChangeSpec) (hvars : spec.vars = [])
    (hfn : ∀ d1 d2, spec.fn H [d1, d2] = { results := [.lit (.bool true)], args := [d1, d2] }) (says : ∀ f f' : Fi, okNum f = true → okNum f' = true → Says E1 g [f.t, f'.t] (boolT true))
    (W : World) (base : Nat) (args : Array Value) (ds gs : List (DataW H)) (before : List MemPlace)
    (hval : ∀ (j : Nat) t v, fn.params[j]? = some t → args[j]? = some v → Value.okWide Tryd.prog W .any base t v)
    (hW : DataW.Whole enc Tryd.prog fn.params.toList spec.vars false W args.toList ds gs before) (hz : (DataW.weightsEach Tryd.prog [26, 26] ds).all (fun n => decide (n ≤ reachBytes)) = true) {a b : DataW Unit} (hL : laidMet Tryd.prog (laid4 a b (Lib.tabData .u64 pow10s) (strData kwords)) W) :
    Calls Tryd.prog g args W fun e W' => ∃ v, e = .returned v ∧ spec.post enc Tryd.prog fn false true false false W args v W' := by
  have hW' := hW
  have hlt := hW.lt
  obtain ⟨p, q, hA, hV, rfl, _, _⟩ := hW
  rw [hp] at hA hval
  obtain ⟨v0, v1, d0, d1, p0, p1, rfl, rfl, rfl, h0, h1⟩ := trodAll_two hA
  rw [hvars] at hV
  obtain ⟨rfl, rfl⟩ := trodVars_none hV
  obtain ⟨f, rf, hf⟩ := finding_arg (hval 0 26 v0 rfl rfl) h0
  obtain ⟨f', rf', hf'⟩ := finding_arg (hval 1 26 v1 rfl rfl) h1
  simp only [DataW.weightsEach, List.append_nil, List.all_append, Bool.and_eq_true] at hz
  replace hf := hf hz.1
  replace hf' := hf' hz.2
  have reps : RepTs (X0 W) [f.t, f'.t] [v0, v1] := ⟨rfl, fun j t v a b => by
    match j, a with
    | 0, a => cases a; cases b; exact rf
    | 1, a => cases a; cases b; exact rf'⟩
  refine ((says f f' hf hf').2 (X0 W) W [v0, v1] rfl (X0_far W) (X0_is W) (glob_of hL) reps).mono fun e W' ⟨v, he, hs, hsz, hk, hv⟩ => ?_
  subst he
  obtain rfl := boolT_val hv
  have stay : ∀ {v : Value} {d : DataW H} {ps : List MemPlace}, DataW.Trod enc Tryd.prog W 0 (fun _ => true) true 26 v d ps → (∀ x ∈ ps, x.block < W.heap.size) → DataW.Trod enc Tryd.prog W' 0 (fun b => decide (b < W.heap.size)) true 26 v d ps := fun h hl =>
    WideElems.Trod_stays laidOut read26 row26 h (fun x hx => same_at hk (hl x hx)) (fun x hx => by simpa using hl x hx)
  refine ⟨_, rfl, [d0, d1], [], p0 ++ p1 ++ [], [], p0 ++ p1, [], hW', ?_, ?_, ?_, kept_of' hs hk _, fun h => by cases h⟩
  · rw [hr, List.append_nil, hfn]
    exact trodAll_cons_mk (shut_bool u4 _) trodAll_mk0
  · rw [hp, List.append_nil, hfn]
    exact trodAll_mk2 (stay h0 fun x hx => hlt x (by simp [hx])) (stay h1 fun x hx => hlt x (by simp [hx]))
  · rw [hvars, List.append_nil, hfn]
    rfl
end Go.Ex
