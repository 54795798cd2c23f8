import Derived.Test.YtfnpmhhlhlbclaaDoorDtL
namespace Go.Ex
open Go.Proofs
set_option maxRecDepth 100000
/-- a finding as the summaries read it -/
def Fi.re (f : Fi) : Fi := { f with path := plsOf f.path.length fun k => (f.path.getD k default).d }
theorem Fi.re_eq (f : Fi) : f.re = f := by unfold Fi.re; rw [plsOf_path]
/-- FindingTells, run -/
theorem t3 {α : Type} (f g : Fi) (κ : T → Option α) : ((asks @sumT).next E1 nokeep 5000).pure 3 [f.t, g.t] κ =
    br (decide ((f.path.length : Int) > 4200)) (κ (boolT true)) (br (decide ((g.path.length : Int) > 4200)) (κ (boolT true))
      (br (okFi f.t && okFi g.t) (br (okFi f.t && okFi g.t) (br (cmpF f.re g.re == cmpF f.re g.re)
        (br (okBig f.t f.re) (br (okBig f.t f.re) (br (eqS (keyB f.re) (keyB f.re))
          (br (okBig f.t f.re) (br (okBig f.t f.re) (br (chkF f.re == chkF f.re) (κ (boolT true)) (κ (boolT false))) none) none)
          (κ (boolT false))) none) none)
        (κ (boolT false))) none) none)) := by kernel_rfl
theorem s3 (f g : Fi) (hf : okNum f = true) : Says E1 3 [f.t, g.t] (boolT true) := by
  refine toldT.run nokeep 5000 ((t3 f g some).trans ?_)
  by_cases h1 : f.path.length ≤ 4200
  · have c1 : decide ((f.path.length : Int) > 4200) = false := by simp; omega
    by_cases h2 : g.path.length ≤ 4200
    · have c2 : decide ((g.path.length : Int) > 4200) = false := by simp; omega
      have c3 : (okFi f.t && okFi g.t) = true := by rw [okFi_t h1, okFi_t h2]; rfl
      have c4 : okBig f.t f.re = true := by rw [Fi.re_eq, okBig, okFi_t h1, hf]; rfl
      have c5 : eqS (keyB f.re) (keyB f.re) = true := by simp [eqS]
      rw [c1, c2, c3, c4, c5]
      simp [br]
    · have c2 : decide ((g.path.length : Int) > 4200) = true := by simp; omega
      rw [c1, c2]
      rfl
  · have c1 : decide ((f.path.length : Int) > 4200) = true := by simp; omega
    rw [c1]
    rfl
end Go.Ex
