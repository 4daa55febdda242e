/- GrammarfileEqual: the law function. -/
import Derived.Test.YtondhmpdmbjmdaaDoorFnsLe
import Derived.Test.YtondhmpdmbjmdaaDoorE3
set_option linter.unusedVariables false
set_option linter.unusedSimpArgs false
namespace Go.Av
open Go Go.Proofs

set_option maxHeartbeats 2000000 in
theorem law_GfEqual (a b : GF) (H : AHeap) (hT : H 1 = some (.tab powTab)) (ha : ∀ l ∈ a.levels, l.tokens.length ≤ R47) (hb : ∀ l ∈ b.levels, l.tokens.length ≤ R47) : Pure lF_Equal_id [a.av, b.av] H (.bool true) := by
  refine lF_Equal_enter rfl ?_
  simp [lF_Equal_rs, allocQ]
  intro b2 hb2 b3 hb3
  obtain ⟨H1, e1, q2, q3, hle⟩ := two_boxes (o' := .box b.av) hb2 hb3
  rw [e1]
  simp [q2, q3]
  refine (l16_small a 200 H1 (by decide) (by decide) ha).use ?_
  by_cases sa : sizeF a 200 ≤ 200
  · simp [sa, q2, q3]
    refine (l16_small b 200 H1 (by decide) (by decide) hb).use ?_
    by_cases sb : sizeF b 200 ≤ 200
    · obtain ⟨_, ta⟩ := small_tokens (by decide) (by decide) sa
      obtain ⟨_, tb⟩ := small_tokens (by decide) (by decide) sb
      simp [sb, q2, q3]
      refine lF_Equal_c6_lex ?_
      simp
      refine ⟨_, l16_awake H1, ?_⟩
      try simp [q2, q3]
      refine ⟨_, gf_Equal a b H1, ?_⟩
      try simp [q2, q3]
      refine ⟨_, r16_Equal a b ta tb H1, ?_⟩
      try simp [q2, q3]
      refine ⟨_, gf_Equal a a H1, ?_⟩
      try simp [q2, q3, eqB_self]
      refine ⟨_, gf_Equal b a H1, ?_⟩
      try simp [q2, q3]
      refine ⟨_, gf_Equal a b H1, ?_⟩
      simp [eqB_comm b a]
      exact hle
    · simp [sb]
      refine (l16_awake H1).use ?_
      simp
      exact hle
  · simp [sa]
    refine (l16_awake H1).use ?_
    simp
    exact hle
end Go.Av
