/- The text of a small valid file. -/
import Derived.Test.YtondhmpdmbjmdaaDoorLa
import Derived.Test.YtondhmpdmbjmdaaDoorRT5
set_option linter.unusedVariables false
set_option linter.unusedSimpArgs false
namespace Go.Av
open Go Go.Proofs

/-- The text of a small valid file. -/
theorem format_small {f : GF} {H : AHeap} {m : Int} (hT : H 1 = some (.tab powTab)) (hv : validM f = true) (hm : 0 ≤ m) (hm2 : m ≤ 200) (hs : sizeF f m ≤ m) : Pure gF_Format_id [f.av] H (.str (gfText f)) := by
  have V := validM_parts hv
  have hl := gfText_len hv hm hs
  have hlim : lim47 = 140737488355328 := rfl
  refine gf_Format f H (small_tokens hm (by omega) hs).2 (fun r hr a ha => ?_) (by omega)
  have h1 := (ruleOK_parts (V.rule r hr).1).2 a ha
  simp only [altOK, Bool.and_eq_true, decide_eq_true_eq] at h1
  exact ⟨h1.1.1, .inr ⟨by omega, hT⟩⟩

theorem format_le {f : GF} {m : Int} (hv : validM f = true) (hm : 0 ≤ m) (hm2 : m ≤ 200) (hs : sizeF f m ≤ m) : (gfText f).length ≤ 1000000 := by
  have hl := gfText_len hv hm hs
  omega

end Go.Av
