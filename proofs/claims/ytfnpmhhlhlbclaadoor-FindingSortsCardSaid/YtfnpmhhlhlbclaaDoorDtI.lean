import Derived.Test.YtfnpmhhlhlbclaaDoorDtA
import Derived.Shelf.Strconv.Itoa3
namespace Go.Ex
open Go.Proofs Go.Shelf
set_option maxRecDepth 100000
def tryRen : Go.Shelf.Ren :=
  ⟨fun
    | 171 => 27 | 243 => 37 | 246 => 45 | 283 => 53 | 284 => 54 | 285 => 55 | 286 => 56 | 129 => 62 | 317 => 61 | 318 => 63 | 319 => 64 | 320 => 65 | 337 => 67 | 338 => 68 | n => n,
   fun
    | 171 => 59 | 53 => 60 | 37 => 52 | 173 => 63 | 212 => 71 | 51 => 72 | 213 => 73 | 46 => 74 | 232 => 77 | 233 => 78 | n => n,
   fun
    | 17 => 1 | 18 => 2 | 19 => 3 | n => n⟩
theorem laysItoa : LaysM.n171 Tryd.prog tryRen := {
  mixed := by kernel_rfl
  f129 := by kernel_rfl
  f171 := by kernel_rfl
  f243 := by kernel_rfl
  f246 := by kernel_rfl
  f283 := by kernel_rfl
  f284 := by kernel_rfl
  f285 := by kernel_rfl
  f286 := by kernel_rfl
  f317 := by kernel_rfl
  f318 := by kernel_rfl
  f319 := by kernel_rfl
  f320 := by kernel_rfl
  f337 := by kernel_rfl
  f338 := by kernel_rfl
  t0 := by kernel_rfl
  a0 := by intro w; kernel_rfl
  z0 := by intro w; kernel_rfl
  v0 := by intro w; kernel_rfl
  t2 := by kernel_rfl
  a2 := by intro w; kernel_rfl
  z2 := by intro w; kernel_rfl
  v2 := by intro w; kernel_rfl
  t3 := by kernel_rfl
  a3 := by intro w; kernel_rfl
  z3 := by intro w; kernel_rfl
  v3 := by intro w; kernel_rfl
  t4 := by kernel_rfl
  a4 := by intro w; kernel_rfl
  z4 := by intro w; kernel_rfl
  v4 := by intro w; kernel_rfl
  t5 := by kernel_rfl
  a5 := by intro w; kernel_rfl
  z5 := by intro w; kernel_rfl
  v5 := by intro w; kernel_rfl
  t9 := by kernel_rfl
  a9 := by intro w; kernel_rfl
  z9 := by intro w; kernel_rfl
  v9 := by intro w; kernel_rfl
  t20 := by kernel_rfl
  a20 := by intro w; kernel_rfl
  z20 := by intro w; kernel_rfl
  v20 := by intro w; kernel_rfl
  t37 := by kernel_rfl
  a37 := by intro w; kernel_rfl
  z37 := by intro w; kernel_rfl
  v37 := by intro w; kernel_rfl
  t46 := by kernel_rfl
  a46 := by intro w; kernel_rfl
  z46 := by intro w; kernel_rfl
  v46 := by intro w; kernel_rfl
  t51 := by kernel_rfl
  a51 := by intro w; kernel_rfl
  z51 := by intro w; kernel_rfl
  v51 := by intro w; kernel_rfl
  t53 := by kernel_rfl
  a53 := by intro w; kernel_rfl
  z53 := by intro w; kernel_rfl
  v53 := by intro w; kernel_rfl
  t171 := by kernel_rfl
  a171 := by intro w; kernel_rfl
  z171 := by intro w; kernel_rfl
  v171 := by intro w; kernel_rfl
  t173 := by kernel_rfl
  a173 := by intro w; kernel_rfl
  z173 := by intro w; kernel_rfl
  v173 := by intro w; kernel_rfl
  t212 := by kernel_rfl
  a212 := by intro w; kernel_rfl
  z212 := by intro w; kernel_rfl
  v212 := by intro w; kernel_rfl
  t213 := by kernel_rfl
  a213 := by intro w; kernel_rfl
  z213 := by intro w; kernel_rfl
  t232 := by kernel_rfl
  a232 := by intro w; kernel_rfl
  z232 := by intro w; kernel_rfl
  v232 := by intro w; kernel_rfl
  t233 := by kernel_rfl
  a233 := by intro w; kernel_rfl
  z233 := by intro w; kernel_rfl
  v233 := by intro w; kernel_rfl
  g17 := by kernel_rfl
  g18 := by kernel_rfl
  g19 := by kernel_rfl
  i0 := by kernel_rfl
  i2 := by kernel_rfl
  i3 := by kernel_rfl
  i4 := by kernel_rfl
  i5 := by kernel_rfl
  i9 := by kernel_rfl
  i20 := by kernel_rfl
  i37 := by kernel_rfl
  i46 := by kernel_rfl
  i51 := by kernel_rfl
  i53 := by kernel_rfl
  i171 := by kernel_rfl
  i173 := by kernel_rfl
  i212 := by kernel_rfl
  i232 := by kernel_rfl
  i233 := by kernel_rfl
  m17 := by kernel_rfl
  m18 := by kernel_rfl
  m19 := by kernel_rfl
  }

theorem tab_of {X : Ctx} {w : World} (hw : X.Is w) (hg : GlobOK E1 X) : Lib.TabIs Tryd.prog w "internal/strconv.uint64pow10" .u64 Lib.pow10Tab := by
  have h := hg 1 (pow10s.map fun n => .v (.int .u64 n)) rfl
  obtain ⟨c, ty, fr, h1, h2⟩ := h.all
  have hn : Tryd.prog.globalNamed "internal/strconv.uint64pow10" = some 1 := by kernel_rfl
  unfold Lib.TabIs World.var?
  rw [hn, hw.1]
  simp only [Option.bind_some, h1]
  have hp : Lib.pow10Tab = pow10s := by kernel_rfl
  rw [hp]
  congr 1
  have hr := h.rep
  cases hr with | pro _ _ _ g hb hc hr =>
  refine Array.ext (by rw [h2]; simp) fun i hi1 hi2 => ?_
  have hi : i < pow10s.length := by simpa using hi2
  have e : (pow10s.map fun n => D.v (.int .u64 n))[i]? = some (.v (.int .u64 pow10s[i])) := by simp [hi]
  have hci := hc i _ e
  have hri := hr i _ e
  generalize g i = v at hci hri
  cases hri
  simp only [cellAt, h1, Nat.zero_add] at hci
  simp only [Array.getElem?_eq_getElem hi1, Option.some.injEq] at hci
  rw [hci]
  simp

theorem itoa_says (n : Int) (h0 : -9223372036854775808 ≤ n) (h1 : n ≤ 9223372036854775807) : Says E1 27 [intT .i64 n] (.one (.d (.v (.string ⟨(Lib.itoa n).toArray⟩)))) := by
  refine ⟨?_, fun X w vals hX hF hw hg hr => ?_⟩
  · obtain ⟨c, hc⟩ : ∃ c, (Body.n171 tryRen).body = some c := ⟨_, rfl⟩
    exact ⟨_, c, laysItoa.f171, hc, by decide⟩
  · obtain ⟨hl, hr⟩ := hr
    match vals, hl with
    | [v], _ =>
    have hv := hr 0 (intT .i64 n) v rfl rfl
    cases hv with | one _ _ hv => cases hv with | d _ _ hv => cases hv with | v _ _ =>
    refine (Any.strconv_Itoa laysItoa n h0 h1 w (tab_of hw hg)).mono ?_
    rintro e w' ⟨rfl, k, os, rfl⟩
    refine ⟨_, rfl, rfl, ?_, fun b hb => ?_, .one _ _ (.d _ _ (.v _ rfl))⟩
    · simp [Go.Sort.grow]
    · simp only [Go.Sort.grow, World.heap_drewN]
      rw [Array.getElem?_append_left hb]
end Go.Ex
