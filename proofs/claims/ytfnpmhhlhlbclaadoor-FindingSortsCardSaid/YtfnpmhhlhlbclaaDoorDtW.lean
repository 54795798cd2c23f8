import Derived.Test.YtfnpmhhlhlbclaaDoorDtQ
import Derived.Test.YtfnpmhhlhlbclaaDoorDtYZ
namespace Go.Ex
open Go.Proofs Go.ChangeShapes Go.WideShapes Go.ChangeAt Go.RowKit
set_option maxRecDepth 100000
/-! ### a list of findings among the arguments -/
theorem u33 : Tryd.prog.underlying 33 = some (.slice 26) := by kernel_rfl
theorem read33 : Tryd.prog.readableRec 33 = true := by kernel_rfl
theorem row33 : 33 < Tryd.prog.types.size := of_decide_eq_true (by kernel_rfl)
instance : Inhabited Value := ⟨undef⟩
/-- the cells of a finding whose path is held by a value -/
def fiVals (f : Fi) (v : Value) : List Value := [.int .i64 f.kind, .string f.at'.c, .string f.at'.m, .int .i64 f.at'.n, .string f.what, v]
theorem all_weights {H : Type} {P : Program} {e : TypeId} : ∀ {l : List (DataW H)} {q : Nat → Bool}, (DataW.weightsAll P e l).all q = true → ∀ d ∈ l, (d.weights P e).all q = true
  | [], _, _, d, h => by simp at h
  | d' :: r, q, h, d, hd => by
    simp only [DataW.weightsAll, List.all_append, Bool.and_eq_true] at h
    rcases List.mem_cons.1 hd with e | e
    · rw [e]; exact h.1
    · exact all_weights h.2 d e
theorem getD_lt {α : Type} {l : List α} {j : Nat} {d : α} (h : j < l.length) : l[j]? = some (l.getD j d) := by simp [List.getD, h]
section
variable {H : Type} {enc : TypeId × Value → H} {W : World} {base : Nat} {spare : Nat → Bool} {held : Bool} {fuel : Nat} {cs : List Value} {x : DataW H × List MemPlace}
theorem list_open {Z : Nat → Prop} (hZ : ∀ b, Z b) (h : DataW.trod enc Tryd.prog W base spare held fuel 33 cs = some x) :
    ∃ (nl : Bool) (fs : List Fi) (v : Value), cs = [v] ∧ RepD W.heap Z (lstD nl fs) v ∧ ((x.1.weights Tryd.prog 33).all (fun n => decide (n ≤ reachBytes)) = true → bigP fs ∧ ∀ f ∈ fs, okNum f = true) := by
  rcases DataW.trod_slice u33 h with ⟨rfl, rfl⟩ | ⟨a, len, cap, elems, rest, n, _, rfl, rfl, hb, hl, hm, hlen, hel, _, _⟩
  · exact ⟨true, [], _, rfl, .rofn 6 _, fun _ => ⟨fun f hf => by simp at hf, fun f hf => by simp at hf⟩⟩
  · by_cases h0 : len = 0
    · subst h0
      exact ⟨false, [], _, rfl, .rofz 6 _ a cap, fun _ => ⟨fun f hf => by simp at hf, fun f hf => by simp at hf⟩⟩
    · obtain ⟨b, off, sp⟩ := a
      have hs : sp = none := by
        have he := hel 0 (by omega)
        rw [List.getElem?_eq_getElem (by omega), c26] at he
        obtain ⟨l, hl', hy⟩ := Option.bind_eq_some_iff.1 he
        obtain ⟨f, v5, rfl, _⟩ := finding_open hZ hy
        have := cells_at hl' (j := 0) rfl
        simp only [Addr.add, Nat.zero_mul, if_true] at this
        unfold World.cell? at this
        cases sp with
        | none => rfl
        | some z => split at this <;> simp at this
      subst hs
      have each : ∀ i, i < len → ∃ p : Fi × Value, (∀ (j : Nat) (v : Value), (fiVals p.1 p.2)[j]? = some v → cellAt W.heap b (off + (i * 6 + j)) = some v) ∧ RepD W.heap Z (pathD p.1.nil p.1.path) p.2 ∧
          (∀ y, elems[i]? = some y → (y.1.weights Tryd.prog 26).all (fun n => decide (n ≤ reachBytes)) = true → okNum p.1 = true ∧ p.1.path.length < 1152921504606846976) := by
        intro i hi
        have he := hel i hi
        have hle : i < elems.length := by omega
        rw [List.getElem?_eq_getElem hle, c26] at he
        obtain ⟨l, hl', hy⟩ := Option.bind_eq_some_iff.1 he
        obtain ⟨f, v5, rfl, hr, ho⟩ := finding_open hZ hy
        refine ⟨(f, v5), fun j v hv => ?_, hr, fun y hy' hw => ?_⟩
        · have := cells_at hl' hv
          rw [Addr.add_lit, Addr.add_lit, cell?_eq] at this
          rw [← this]
          congr 1
          omega
        · rw [List.getElem?_eq_getElem hle] at hy'
          cases hy'
          exact ho hw
      obtain ⟨ps, hp1, hp2⟩ := list_of len each
      have hfst : ∀ k, k < len → ((ps.map fun p : Fi × Value => p.1).getD k default) = (ps.getD k default).1 := fun k hk => by simp [List.getD, hp1, hk]
      refine ⟨false, ps.map (fun p : Fi × Value => p.1), _, rfl, ?_, fun hw => ?_⟩
      · have key := RepD.rof (H := W.heap) (Z := Z) 6 len (fun k => ((ps.map fun p : Fi × Value => p.1).getD k default).ds) b off cap (fun i j => (fiVals (ps.getD i default).1 (ps.getD i default).2).getD j undef) hl
          (fun i hi => rfl) (fun hpos => ⟨hZ b, ?_⟩) (fun i j d hi hj => ?_) (fun i j d hi hj => ?_)
        · unfold lstD
          have hn : (ps.map fun p : Fi × Value => p.1).length = len := by simp [hp1]
          rw [hn]
          exact key
        · have := (hp2 0 hpos).1 0 _ rfl
          unfold cellAt at this
          split at this
          · rename_i c _ _ hc
            exact (Array.getElem?_eq_some_iff.1 hc).1
          · simp at this
        · have hlt : j < 6 := (List.getElem?_eq_some_iff.1 hj).1
          refine (hp2 i hi).1 j _ ?_
          have : j < (fiVals (ps.getD i default).1 (ps.getD i default).2).length := hlt
          exact getD_lt this
        · rw [hfst i hi] at hj
          have hlt : j < 6 := (List.getElem?_eq_some_iff.1 hj).1
          match j, hlt with
          | 0, _ => cases hj; exact .v _ rfl
          | 1, _ => cases hj; exact .v _ rfl
          | 2, _ => cases hj; exact .v _ rfl
          | 3, _ => cases hj; exact .v _ rfl
          | 4, _ => cases hj; exact .v _ rfl
          | 5, _ => cases hj; exact (hp2 i hi).2.1
      · simp only [DataW.weights, u33, List.all_cons, List.all_append, Bool.and_eq_true] at hw
        have hall := all_weights hw.2.1
        have each2 : ∀ f ∈ ps.map (fun p : Fi × Value => p.1), okNum f = true ∧ f.path.length < 1152921504606846976 := by
          intro f hf
          obtain ⟨p, hp, rfl⟩ := List.mem_map.1 hf
          obtain ⟨k, hk⟩ := List.getElem?_of_mem hp
          have hklt : k < len := by have := (List.getElem?_eq_some_iff.1 hk).1; omega
          have hkl : k < elems.length := by omega
          have hpk : ps.getD k default = p := by simp [List.getD, hk]
          have := (hp2 k hklt).2.2 _ (List.getElem?_eq_getElem hkl) (hall _ (List.mem_map.2 ⟨_, List.getElem_mem hkl, rfl⟩))
          rw [hpk] at this
          exact this
        exact ⟨fun f hf => (each2 f hf).2, fun f hf => (each2 f hf).1⟩
end

theorem list_arg {H : Type} {enc : TypeId × Value → H} {W : World} {base : Nat} {spare : Nat → Bool} {held : Bool} {v : Value} {d : DataW H} {ps : List MemPlace} (hv : v.oneCell' = true)
    (h : DataW.Trod enc Tryd.prog W base spare held 33 v d ps) : ∃ (nl : Bool) (fs : List Fi), RepT (X0 W) (lstT nl fs) v ∧ ((d.weights Tryd.prog 33).all (fun n => decide (n ≤ reachBytes)) = true → bigP fs ∧ ∀ f ∈ fs, okNum f = true) := by
  obtain ⟨fuel, hf⟩ := h
  have hc : v.cells = #[v] := by cases v <;> simp [Value.oneCell', Value.cells] at hv ⊢
  rw [hc] at hf
  obtain ⟨nl, fs, v', h1, h2, h3⟩ := list_open (X0_z W) hf
  obtain rfl : v = v' := by simpa using h1
  exact ⟨nl, fs, .one _ _ (.d _ _ h2), h3⟩

/-- a law of one list of findings -/
theorem one_law {H : Type} {enc : TypeId × Value → H} (g : FuncId) (fn : Func) (hp : fn.params = #[33]) (hr : fn.resultTypes = #[4]) (spec : ChangeSpec) (hvars : spec.vars = [])
    (hfn : ∀ d1, spec.fn H [d1] = { results := [.lit (.bool true)], args := [d1] }) (says : ∀ (nl : Bool) (xs : List Fi), bigP xs → (∀ f ∈ xs, okNum f = true) → Says E1 g [lstT nl xs] (boolT true))
    (W : World) (base : Nat) (args : Array Value) (ds gs : List (DataW H)) (before : List MemPlace)
    (hval : ∀ (j : Nat) t v, fn.params[j]? = some t → args[j]? = some v → Value.okWide Tryd.prog W .any base t v)
    (hW : DataW.Whole enc Tryd.prog fn.params.toList spec.vars false W args.toList ds gs before) (hz : (DataW.weightsEach Tryd.prog [33] ds).all (fun n => decide (n ≤ reachBytes)) = true) {a b : DataW Unit} (hL : laidMet Tryd.prog (laid4 a b (Lib.tabData .u64 pow10s) (strData kwords)) W) :
    Calls Tryd.prog g args W fun e W' => ∃ v, e = .returned v ∧ spec.post enc Tryd.prog fn false true false false W args v W' := by
  have hW' := hW
  have hlt := hW.lt
  obtain ⟨p, q, hA, hV, rfl, _, _⟩ := hW
  rw [hp] at hA hval
  obtain ⟨v0, vs0, d0, ds0, p0, q0, hargs, rfl, rfl, h0, r0⟩ := trodAll_cons hA
  obtain ⟨rfl, rfl, rfl⟩ := trodAll_nil r0
  obtain rfl : args = #[v0] := by cases args; simp_all
  rw [hvars] at hV
  obtain ⟨rfl, rfl⟩ := trodVars_none hV
  have hone : v0.oneCell' = true := by
    have h1 := hval 0 33 v0 rfl rfl
    unfold Value.okWide at h1
    rw [u33] at h1
    simp only at h1
    unfold Cell.okWide at h1
    rw [u33] at h1
    simp only at h1
    unfold Cell.ok at h1
    rw [u33] at h1
    cases v0 <;> simp [Value.oneCell'] at h1 ⊢
  obtain ⟨nl, fs, rf, hf⟩ := list_arg hone h0
  simp only [DataW.weightsEach, List.append_nil] at hz
  replace hf := hf hz
  have reps : RepTs (X0 W) [lstT nl fs] [v0] := ⟨rfl, fun j t v a b => by
    match j, a with
    | 0, a => cases a; cases b; exact rf⟩
  refine ((says nl fs hf.1 hf.2).2 (X0 W) W [v0] rfl (X0_far W) (X0_is W) (glob_of hL) reps).mono fun e W' ⟨v, he, hs, hsz, hk, hv⟩ => ?_
  subst he
  obtain rfl := boolT_val hv
  have stay : DataW.Trod enc Tryd.prog W' 0 (fun b => decide (b < W.heap.size)) true 33 v0 d0 p0 :=
    WideElems.Trod_stays laidOut read33 row33 h0 (fun x hx => same_at hk (hlt x (by simp [hx]))) (fun x hx => by simpa using hlt x (by simp [hx]))
  refine ⟨_, rfl, [d0], [], p0 ++ [] ++ [], [], p0 ++ [], [], hW', ?_, ?_, ?_, kept_of' hs hk _, fun h => by cases h⟩
  · rw [hr, List.append_nil, hfn]
    exact trodAll_cons_mk (shut_bool u4 _) trodAll_mk0
  · rw [hp, List.append_nil, hfn]
    exact trodAll_cons_mk stay trodAll_mk0
  · rw [hvars, List.append_nil, hfn]
    rfl
end Go.Ex
