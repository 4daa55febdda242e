/- GrammarfileFormat: the law function. -/
import Derived.Test.YtondhmpdmbjmdaaDoorFnsLf
import Derived.Test.YtondhmpdmbjmdaaDoorLFs
import Derived.Test.YtondhmpdmbjmdaaDoorF4
set_option linter.unusedVariables false
set_option linter.unusedSimpArgs false
namespace Go.Av
open Go Go.Proofs

set_option maxHeartbeats 2000000 in
theorem law_GfFormat (f : GF) (H : AHeap) (hT : H 1 = some (.tab powTab)) (hf : ∀ l ∈ f.levels, l.tokens.length ≤ R47) : Pure lF_Format_id [f.av] H (.bool true) := by
  refine lF_Format_enter rfl ?_
  simp [lF_Format_rs, allocQ]
  intro b1 hb1
  have q1 : (H.set b1 (.box f.av)) b1 = some (.box f.av) := AHeap.set_same _ _ _
  have hle : HLe H (H.set b1 (.box f.av)) := .set hb1
  have hT1 := hle.x 1 _ rfl hT
  generalize H.set b1 (.box f.av) = H1 at q1 hle hT1 ⊢
  refine (l16_small f 200 H1 (by decide) (by decide) hf).use ?_
  by_cases hs : sizeF f 200 ≤ 200
  · obtain ⟨t1, _⟩ := small_tokens (by decide) (by decide) hs
    simp [hs, q1]
    refine (r16_Valid f t1 H1).use ?_
    cases hv : validM f
    · simp
      refine (l16_awake H1).use ?_
      simp
      exact hle
    · simp
      refine lF_Format_c6_lex ?_
      simp
      refine ⟨_, l16_awake H1, ?_⟩
      simp [q1]
      refine ⟨_, format_small hT1 hv (by decide) (by decide) hs, ?_⟩
      have hl := format_le hv (by decide) (by decide) hs
      have hLim := Lim_eq
      refine ⟨_, r16_Format f hv (by omega) H1, ?_⟩
      simp
      exact hle
  · simp [hs]
    refine (l16_awake H1).use ?_
    simp
    exact hle
end Go.Av
