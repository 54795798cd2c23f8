import Derived.Test.YtfnpmhhlhlbclaaDoorDtO
namespace Go.Ex
open Go.Proofs Go.ChangeShapes Go.WideShapes Go.ChangeAt Go.RowKit
set_option maxRecDepth 100000
/-! ### findings among the arguments -/
noncomputable def flds (t : TypeId) : Array Field := match Tryd.prog.underlying t with
  | some (.struct fs) => fs
  | _ => #[]
theorem u23 : Tryd.prog.underlying 23 = some (.struct (flds 23)) := by kernel_rfl
theorem u26 : Tryd.prog.underlying 26 = some (.struct (flds 26)) := by kernel_rfl
theorem u24 : Tryd.prog.underlying 24 = some (.slice 23) := by kernel_rfl
theorem n23 : (flds 23).size = 3 := by kernel_rfl
theorem n26 : (flds 26).size = 4 := by kernel_rfl
theorem fld23 : (flds 23).toList.map (fun f => (f.type, f.offset)) = [(9, 0), (9, 1), (3, 2)] := by kernel_rfl
theorem fld26 : (flds 26).toList.map (fun f => (f.type, f.offset)) = [(3, 0), (23, 1), (9, 4), (24, 5)] := by kernel_rfl
theorem fld_at {t : TypeId} {l : List (TypeId × Nat)} (h : (flds t).toList.map (fun f => (f.type, f.offset)) = l) (i : Nat) {ty off : Nat} (hi : l[i]? = some (ty, off)) : ∃ f, (flds t)[i]? = some f ∧ f.type = ty ∧ f.offset = off := by
  rw [← h, List.getElem?_map, Option.map_eq_some_iff] at hi
  obtain ⟨f, hf, he⟩ := hi
  cases he
  exact ⟨f, by rw [← Array.getElem?_toList]; exact hf, rfl, rfl⟩

section
variable {H : Type} {enc : TypeId × Value → H} {W : World} {base : Nat} {spare : Nat → Bool} {held : Bool} {fuel : Nat} {cs : List Value} {x : DataW H × List MemPlace}

theorem int64_of {n : Int} (h : (Lit.int .i64 n).wf = true) : int64 n = true := by
  simpa [Lit.wf, int64, IntKind.min, IntKind.max, IntKind.bits, IntKind.signed] using h

theorem place_open (h : DataW.trod enc Tryd.prog W base spare held fuel 23 cs = some x) : ∃ p : Pl, cs = [.string p.c, .string p.m, .int .i64 p.n] ∧ x.1 = .agg [.lit (.string p.c.data.toList), .lit (.string p.m.data.toList), .lit (.int .i64 p.n)] ∧ int64 p.n = true := by
  obtain ⟨xs, n, _, rfl, hl, hx, hf⟩ := DataW.trod_struct u23 h
  rw [c23] at hl
  rw [n23] at hx
  match cs, hl with
  | [a, b, c], _ =>
  have get : ∀ i, i < 3 → ∃ y, xs[i]? = some y := fun i hi => ⟨xs[i], List.getElem?_eq_getElem (by omega)⟩
  obtain ⟨f0, hf0, t0, o0⟩ := fld_at fld23 0 rfl
  obtain ⟨f1, hf1, t1, o1⟩ := fld_at fld23 1 rfl
  obtain ⟨f2, hf2, t2, o2⟩ := fld_at fld23 2 rfl
  obtain ⟨y0, hy0⟩ := get 0 (by omega)
  obtain ⟨y1, hy1⟩ := get 1 (by omega)
  obtain ⟨y2, hy2⟩ := get 2 (by omega)
  have e0 := hf 0 f0 hf0
  have e1 := hf 1 f1 hf1
  have e2 := hf 2 f2 hf2
  rw [t0, o0, hy0, c9] at e0
  rw [t1, o1, hy1, c9] at e1
  rw [t2, o2, hy2, c3] at e2
  obtain ⟨s0, h0, r0, _⟩ := DataW.trod_string u9 e0
  obtain ⟨s1, h1, r1, _⟩ := DataW.trod_string u9 e1
  obtain ⟨z, h2, r2, m2⟩ := DataW.trod_int u3 e2
  simp at h0 h1 h2
  subst h0; subst h1; subst h2
  refine ⟨⟨s0, s1, z⟩, rfl, ?_, int64_of m2⟩
  match xs, hx with
  | [z0, z1, z2], _ =>
  simp at hy0 hy1 hy2
  subst hy0; subst hy1; subst hy2
  simp [r0, r1, r2]

theorem list_of {α : Type} [Inhabited α] {Q : Nat → α → Prop} : ∀ n, (∀ i, i < n → ∃ a, Q i a) → ∃ l : List α, l.length = n ∧ ∀ i, i < n → Q i (l.getD i default)
  | 0, _ => ⟨[], rfl, fun i hi => by omega⟩
  | n + 1, h => by
    obtain ⟨l, h1, h2⟩ := list_of n fun i hi => h i (by omega)
    obtain ⟨a, ha⟩ := h n (by omega)
    refine ⟨l ++ [a], by simp [h1], fun i hi => ?_⟩
    by_cases e : i < n
    · have := h2 i e
      simpa [List.getD, List.getElem?_append, h1, e] using this
    · obtain rfl : i = n := by omega
      simpa [List.getD, List.getElem?_append, h1] using ha

theorem cells_at {a : Addr} {n : Nat} {l : List Value} (h : W.cells? base a n = some l) {j : Nat} {v : Value} (hj : l[j]? = some v) : W.cell? (a.add j) = some v := by
  unfold World.cells? at h
  split at h
  · have hlt : j < n := by
      have h1 := Lib.mapM_length h
      have h2 := (List.getElem?_eq_some_iff.1 hj).1
      simpa [h1] using h2
    obtain ⟨b, hb, hf⟩ := Lib.mapM_at h j j (by simp [hlt])
    rw [hb] at hj
    cases hj
    exact hf
  · cases h

/-- a path -/
theorem path_open {Z : Nat → Prop} (hZ : ∀ b, Z b) (h : DataW.trod enc Tryd.prog W base spare held fuel 24 cs = some x) :
    ∃ (nl : Bool) (ps : List Pl) (v : Value), cs = [v] ∧ RepD W.heap Z (pathD nl ps) v ∧ ((x.1 = .nil ∧ ps = []) ∨ ∃ es sp, x.1 = .slice es sp ∧ es.length = ps.length) := by
  rcases DataW.trod_slice u24 h with ⟨rfl, rfl⟩ | ⟨a, len, cap, elems, rest, n, _, rfl, rfl, hb, hl, hm, hlen, hel, _, _⟩
  · exact ⟨true, [], _, rfl, .rofn 3 _, .inl ⟨rfl, rfl⟩⟩
  · by_cases h0 : len = 0
    · subst h0
      exact ⟨false, [], _, rfl, .rofz 3 _ a cap, .inr ⟨_, _, rfl, by simpa using hlen⟩⟩
    · obtain ⟨b, off, sp⟩ := a
      have hs : sp = none := by
        have he := hel 0 (by omega)
        rw [List.getElem?_eq_getElem (by omega), c23] at he
        obtain ⟨l, hl', hy⟩ := Option.bind_eq_some_iff.1 he
        obtain ⟨p, rfl, _⟩ := place_open hy
        have := cells_at hl' (j := 0) rfl
        simp only [Addr.add, Nat.zero_mul, if_true] at this
        unfold World.cell? at this
        cases sp with
        | none => rfl
        | some z => split at this <;> simp at this
      subst hs
      have each : ∀ i, i < len → ∃ p : Pl, ∀ j d, p.d[j]? = some d → cellAt W.heap b (off + (i * 3 + j)) = some (match d with | .v y => y | _ => undef) := by
        intro i hi
        have he := hel i hi
        rw [List.getElem?_eq_getElem (by omega), c23] at he
        obtain ⟨l, hl', hy⟩ := Option.bind_eq_some_iff.1 he
        obtain ⟨p, rfl, _⟩ := place_open hy
        refine ⟨p, fun j d hj => ?_⟩
        have at' : ∀ {v : Value}, [Value.string p.c, Value.string p.m, Value.int .i64 p.n][j]? = some v → cellAt W.heap b (off + (i * 3 + j)) = some v := by
          intro v hv
          have := cells_at hl' hv
          rw [Addr.add_lit, Addr.add_lit, cell?_eq] at this
          rw [← this]
          congr 1
          omega
        have hlt := (List.getElem?_eq_some_iff.1 hj).1
        match j, hlt with
        | 0, _ => cases hj; exact at' rfl
        | 1, _ => cases hj; exact at' rfl
        | 2, _ => cases hj; exact at' rfl
      obtain ⟨ps, hp1, hp2⟩ := list_of len each
      refine ⟨false, ps, _, rfl, ?_, .inr ⟨_, _, rfl, by simp; omega⟩⟩
      have key := RepD.rof (H := W.heap) (Z := Z) 3 len (fun k => (ps.getD k default).d) b off cap (fun i j => match (ps.getD i default).d[j]? with | some (.v y) => y | _ => undef) hl
        (fun i hi => rfl) (fun hpos => ⟨hZ b, ?_⟩) (fun i j d hi hj => ?_) (fun i j d hi hj => ?_)
      · unfold pathD
        rw [hp1]
        exact key
      · have := hp2 0 hpos 0 _ rfl
        unfold cellAt at this
        split at this
        · rename_i c _ _ hc
          exact (Array.getElem?_eq_some_iff.1 hc).1
        · simp at this
      · rw [hp2 i hi j d hj]
        simp only [hj]
        have hlt := (List.getElem?_eq_some_iff.1 hj).1
        match j, hlt with
        | 0, _ => cases hj; rfl
        | 1, _ => cases hj; rfl
        | 2, _ => cases hj; rfl
      · simp only [hj]
        have hlt := (List.getElem?_eq_some_iff.1 hj).1
        match j, hlt with
        | 0, _ => cases hj; exact .v _ rfl
        | 1, _ => cases hj; exact .v _ rfl
        | 2, _ => cases hj; exact .v _ rfl
end
end Go.Ex
