/- GrammarfileInjective: the law function. -/
import Derived.Test.YtondhmpdmbjmdaaDoorFnsLi
import Derived.Test.YtondhmpdmbjmdaaDoorLa
import Derived.Test.YtondhmpdmbjmdaaDoorRT5
set_option linter.unusedVariables false
set_option linter.unusedSimpArgs false
namespace Go.Av
open Go Go.Proofs

/-- The text of a small valid file. -/
theorem format_small {f : GF} {H : AHeap} {m : Int} (hT : H 1 = some (.tab powTab)) (hv : validM f = true) (hm : 0 ≤ m) (hm2 : m ≤ 200) (hs : sizeF f m ≤ m) : Pure gF_Format_id [f.av] H (.str (gfText f)) := by
  have V := validM_parts hv
  have hl := gfText_len hv hm hs
  have hlim : lim47 = 140737488355328 := rfl
  refine gf_Format f H (small_tokens hm (by omega) hs).2 (fun r hr a ha => ?_) (by omega)
  have h1 := (ruleOK_parts (V.rule r hr).1).2 a ha
  simp only [altOK, Bool.and_eq_true, decide_eq_true_eq] at h1
  exact ⟨h1.1.1, .inr ⟨by omega, hT⟩⟩

theorem format_le {f : GF} {m : Int} (hv : validM f = true) (hm : 0 ≤ m) (hm2 : m ≤ 200) (hs : sizeF f m ≤ m) : (gfText f).length ≤ 1000000 := by
  have hl := gfText_len hv hm hs
  omega

set_option maxHeartbeats 2000000 in
theorem law_GfInjective (a b : GF) (H : AHeap) (hT : H 1 = some (.tab powTab)) (ha : ∀ l ∈ a.levels, l.tokens.length ≤ R47) (hb : ∀ l ∈ b.levels, l.tokens.length ≤ R47) : Pure lF_Injective_id [a.av, b.av] H (.bool true) := by
  refine lF_Injective_enter rfl ?_
  simp [lF_Injective_rs, allocQ]
  intro b2 hb2 b3 hb3
  obtain ⟨H1, e1, q2, q3, hle⟩ := two_boxes (o' := .box b.av) hb2 hb3
  rw [e1]
  have hT1 : H1 1 = some (.tab powTab) := hle.x 1 _ rfl hT
  have fin : ∀ K : Prop, K → K := fun _ h => h
  simp [q2, q3]
  refine (l16_small a 200 H1 (by decide) (by decide) ha).use ?_
  by_cases sa : sizeF a 200 ≤ 200
  · simp [sa, q2, q3]
    refine (l16_small b 200 H1 (by decide) (by decide) hb).use ?_
    by_cases sb : sizeF b 200 ≤ 200
    · obtain ⟨ta, _⟩ := small_tokens (by decide) (by decide) sa
      obtain ⟨tb, _⟩ := small_tokens (by decide) (by decide) sb
      simp [sb, q2, q3]
      refine (r16_Valid a ta H1).use ?_
      cases va : validM a
      · simp
        refine (l16_awake H1).use ?_
        simp
        exact hle
      · simp [q3]
        refine (r16_Valid b tb H1).use ?_
        cases vb : validM b
        · simp
          refine (l16_awake H1).use ?_
          simp
          exact hle
        · simp
          refine lF_Injective_c6_lex ?_
          simp
          refine ⟨_, l16_awake H1, ?_⟩
          simp [q2]
          refine ⟨_, format_small hT1 va (by decide) (by decide) sa, ?_⟩
          simp [q3]
          refine ⟨_, format_small hT1 vb (by decide) (by decide) sb, ?_⟩
          simp [q2, q3]
          refine ⟨_, gf_Equal a b H1, ?_⟩
          have key : (gfText a == gfText b) = eqB a b := by
            rw [Bool.eq_iff_iff, eqB_iff, beq_iff_eq]
            exact ⟨format_inj va vb (format_le va (by decide) (by decide) sa), fun h => by rw [h]⟩
          simp [key]
          exact hle
    · simp [sb]
      refine (l16_awake H1).use ?_
      simp
      exact hle
  · simp [sa]
    refine (l16_awake H1).use ?_
    simp
    exact hle
end Go.Av
