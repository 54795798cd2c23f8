import Derived.Test.YtfnpmhhlhlbclaaDoorDtN
import Derived.ProofKit
import Derived.OpenShut
import Derived.Lib.LaidTab
namespace Go.Ex
open Go.Proofs Go.ChangeShapes Go.WideShapes Go.ChangeAt Go.RowKit
set_option maxRecDepth 100000
/-! ### from the row's readings -/
/-- the caller's world: it owns nothing -/
def X0 (W : World) : Ctx := { H := W.heap, h := fun _ => none, ρ := fun i => i, F := fun _ => False, W := sysOf W }
theorem X0_is (W : World) : (X0 W).Is W := ⟨rfl, rfl⟩
theorem X0_z (W : World) (b : Nat) : (X0 W).Z b := ⟨fun id en h => by simp [X0] at h, id⟩
theorem X0_far (W : World) : ∀ b, (X0 W).F b → b < (X0 W).H.size := fun _ h => h.elim

theorem g0 : Tryd.prog.globalNamed "dataflow/lex.keywords" = some 0 := by kernel_rfl
theorem g1 : Tryd.prog.globalNamed "internal/strconv.uint64pow10" = some 1 := by kernel_rfl
theorem g0t : (Tryd.prog.globals[0]?).map (·.type) = some 65 := by kernel_rfl
theorem g1t : (Tryd.prog.globals[1]?).map (·.type) = some 71 := by kernel_rfl
theorem u65 : Tryd.prog.underlying 65 = some (.array 17 9) := by kernel_rfl
theorem u71 : Tryd.prog.underlying 71 = some (.array 20 60) := by kernel_rfl
theorem u60 : Tryd.prog.underlying 60 = some (.int .u64) := by kernel_rfl
theorem u9 : Tryd.prog.underlying 9 = some .string := by kernel_rfl
theorem u3 : Tryd.prog.underlying 3 = some (.int .i64) := by kernel_rfl
theorem c65 : Tryd.prog.cellsOf 65 = 17 := by kernel_rfl
theorem c71 : Tryd.prog.cellsOf 71 = 20 := by kernel_rfl
theorem c60 : Tryd.prog.cellsOf 60 = 1 := by kernel_rfl
theorem c9 : Tryd.prog.cellsOf 9 = 1 := by kernel_rfl
theorem c3 : Tryd.prog.cellsOf 3 = 1 := by kernel_rfl
theorem c24 : Tryd.prog.cellsOf 24 = 1 := by kernel_rfl
theorem c23 : Tryd.prog.cellsOf 23 = 3 := by kernel_rfl
theorem c26 : Tryd.prog.cellsOf 26 = 6 := by kernel_rfl

def strData {H : Type} (ws : List (List UInt8)) : DataW H := .agg (ws.map fun w => .lit (.string w))
/-- an array of strings that reads as a list of texts -/
theorem cells_of_strs {H : Type} {enc : TypeId × Value → H} {P : Program} {w : World} {base : Nat} {sp : Nat → Bool} {held : Bool} {fuel : Nat} {t e : TypeId} {n : Nat} {cs : List Value} {zs : List (List UInt8)} {p : List MemPlace}
    (ht : P.underlying t = some (.array n e)) (he : P.underlying e = some .string) (hce : P.cellsOf e = 1) (hct : P.cellsOf t = n)
    (h : DataW.trod enc P w base sp held fuel t cs = some (strData zs, p)) : cs = zs.map fun z => Value.string ⟨z.toArray⟩ := by
  cases fuel with
  | zero => simp [DataW.trod] at h
  | succ fuel =>
    simp only [DataW.trod, ht, hce, hct, Nat.mul_one] at h
    split at h
    · rename_i hl
      obtain ⟨xs, hm, hx⟩ := Option.map_eq_some_iff.1 h
      have hxs : xs.map (·.1) = zs.map fun z => (DataW.lit (.string z) : DataW H) := by
        have := congrArg Prod.fst hx
        simpa [strData] using this
      have hxl : xs.length = n := by simpa using Lib.mapM_length hm
      have hzl : zs.length = n := by
        have := congrArg List.length hxs
        simp at this
        omega
      apply List.ext_getElem?
      intro i
      by_cases hi : i < n
      · obtain ⟨b, hb, hf⟩ := Lib.mapM_at hm i i (by simp [hi])
        obtain ⟨z, hc, rfl, _⟩ := DataW.trod_string he hf
        have h1 : cs[i]? = some (.string z) := by
          have := congrArg (·[0]?) hc
          simpa [List.getElem?_take, List.getElem?_drop] using this
        have h2 : (xs.map (·.1))[i]? = some (DataW.lit (.string z.data.toList) : DataW H) := by simp [hb]
        rw [hxs] at h2
        simp only [List.getElem?_map, Option.map_eq_some_iff, DataW.lit.injEq, Lit.string.injEq] at h2
        obtain ⟨z', hz', h3⟩ := h2
        simp [h1, hz', h3]
      · rw [List.getElem?_eq_none (by omega), List.getElem?_eq_none (by simp; omega)]
    · cases h

/-- a variable's cells, all told -/
theorem globAt_of {P : Program} {W : World} {name : String} {g : Nat} {vs : List Value} (hg : P.globalNamed name = some g) (h1 : ∀ v ∈ vs, v.oneCell' = true) (h : W.var? P name = some vs.toArray) : GlobAt (X0 W).H (X0 W).Z g (vs.map .v) := by
  unfold World.var? at h
  rw [hg, Option.bind_some] at h
  split at h
  · rename_i cs ty fr hh
    cases h
    have hlt : g < W.heap.size := (Array.getElem?_eq_some_iff.1 hh).1
    refine ⟨.pro _ _ _ (fun j => vs.getD j undef) (fun _ => ⟨X0_z W g, hlt⟩) (fun j d hj => ?_) (fun j d hj => ?_), ⟨X0_z W g, hlt⟩, ⟨_, _, _, hh, by simp⟩⟩
    · rw [List.getElem?_map, Option.map_eq_some_iff] at hj
      obtain ⟨v, hv, rfl⟩ := hj
      simp only [X0, cellAt, hh, Nat.zero_add, List.getElem?_toArray, hv, List.getD, Option.getD_some]
    · rw [List.getElem?_map, Option.map_eq_some_iff] at hj
      obtain ⟨v, hv, rfl⟩ := hj
      simp only [List.getD, hv, Option.getD_some]
      exact .v _ (h1 v (List.mem_of_getElem? hv))
  · cases h

def laid4 (a b c d : DataW Unit) : List (String × DataW Unit) := [("math/bits.deBruijn32tab", a), ("math/bits.deBruijn64tab", b), ("internal/strconv.uint64pow10", c), ("dataflow/lex.keywords", d)]
/-- what the listed variables give -/
theorem glob_of {W : World} {a b : DataW Unit} (h : laidMet Tryd.prog (laid4 a b (Lib.tabData .u64 pow10s) (strData kwords)) W) : GlobOK E1 (X0 W) := by
  obtain ⟨ps, ⟨_, _, _, _, _, _, _, _, _, _, ⟨_, _, _, _, _, _, _, _, _, _, ⟨g1', t1, cs1, f1, p1, q1, hg1, ht1, hv1, hd1, ⟨g0', t0, cs0, f0, p0, q0, hg0, ht0, hv0, hd0, _, _⟩, _⟩, _⟩, _⟩, _⟩ := h
  obtain rfl := Option.some.inj (g1.symm.trans hg1)
  obtain rfl := Option.some.inj (g0.symm.trans hg0)
  obtain rfl := Option.some.inj (g1t.symm.trans ht1)
  obtain rfl := Option.some.inj (g0t.symm.trans ht0)
  have e1 := Lib.cells_of_tab u71 u60 c60 c71 hd1
  have e0 := cells_of_strs u65 u9 c9 c65 hd0
  intro g cs hg
  match g, hg with
  | 0, hg =>
    cases hg
    have := globAt_of g0 (W := W) (vs := kwords.map fun z => Value.string ⟨z.toArray⟩) (by intro v hv; obtain ⟨z, _, rfl⟩ := List.mem_map.1 hv; rfl) (by rw [hv0]; congr 1; apply Array.ext'; simpa using e0)
    rw [List.map_map] at this
    exact this
  | 1, hg =>
    cases hg
    have := globAt_of g1 (W := W) (vs := pow10s.map fun z => Value.int .u64 z) (by intro v hv; obtain ⟨z, _, rfl⟩ := List.mem_map.1 hv; rfl) (by rw [hv1]; congr 1; apply Array.ext'; simpa using e1)
    rw [List.map_map] at this
    exact this
end Go.Ex
