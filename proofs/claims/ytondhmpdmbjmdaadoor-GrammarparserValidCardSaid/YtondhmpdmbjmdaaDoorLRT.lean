/- GrammarparserRoundTrip: the law function. -/
import Derived.Test.YtondhmpdmbjmdaaDoorFnsLp
import Derived.Test.YtondhmpdmbjmdaaDoorFnsLr
import Derived.Test.YtondhmpdmbjmdaaDoorLInj
import Derived.Test.YtondhmpdmbjmdaaDoorRT6
import Derived.Test.YtondhmpdmbjmdaaDoorC22
set_option linter.unusedVariables false
set_option linter.unusedSimpArgs false
namespace Go.Av
open Go Go.Proofs

/-- A file that needs only be small. -/
theorem format_any {f : GF} {H : AHeap} (hT : H 1 = some (.tab powTab)) (hv : validM f = true) (hs : szF f ≤ 1000) : Pure gF_Format_id [f.av] H (.str (gfText f)) := by
  have V := validM_parts hv
  have hl := gfText_szF hv
  have hlim : lim47 = 140737488355328 := rfl
  refine gf_Format f H (fun l hx => by have := szF_tokens f l hx; omega) (fun r hr a ha => ?_) (by omega)
  have h1 := (ruleOK_parts (V.rule r hr).1).2 a ha
  simp only [altOK, Bool.and_eq_true, decide_eq_true_eq] at h1
  exact ⟨h1.1.1, .inr ⟨by omega, hT⟩⟩

set_option maxHeartbeats 2000000 in
theorem law_RoundTrip (f : GF) (H : AHeap) (hT : H 1 = some (.tab powTab)) (hf : ∀ l ∈ f.levels, l.tokens.length ≤ R47) : Pure lG_RoundTrip_id [f.av] H (.bool true) := by
  refine lG_RoundTrip_enter rfl ?_
  simp [lG_RoundTrip_rs, allocQ]
  intro b1 hb1
  have q1 : (H.set b1 (.box f.av)) b1 = some (.box f.av) := AHeap.set_same _ _ _
  have hle : HLe H (H.set b1 (.box f.av)) := .set hb1
  have hT1 := hle.x 1 _ rfl hT
  generalize H.set b1 (.box f.av) = H1 at q1 hle hT1 ⊢
  refine (r16_Size f 100 H1 (by decide) (by decide) hf).use ?_
  by_cases hs : sizeF f 100 ≤ 100
  · obtain ⟨t1, _⟩ := small_tokens (by decide) (by decide) hs
    have hs' : ¬ 100 < sizeF f 100 := by omega
    simp [hs, hs', q1]
    refine (r16_Valid f t1 H1).use ?_
    cases hv : validM f
    · simp
      refine (law_awake H1).use ?_
      simp
      exact hle
    · simp [q1]
      refine (format_small hT1 hv (by decide) (by decide) hs).use ?_
      simp
      have hl := format_le hv (by decide) (by decide) hs
      refine (gp_Parse _ hl H1).use ?_
      rw [parse_format hv hl]
      simp [allocQ]
      intro b3 hb3
      have n13 : b1 ≠ b3 := ne_of_some_none q1 hb3
      refine (law_awake _).use ?_
      simp [AHeap.set_ne, n13, n13.symm, q1]
      refine (gf_Equal f f _).use ?_
      simp [eqB_self]
      exact hle.trans (.set hb3)
  · have hs' : 100 < sizeF f 100 := by omega
    simp [hs, hs']
    refine (law_awake H1).use ?_
    simp
    exact hle

set_option maxHeartbeats 2000000 in
theorem law_ParserValid (s : List UInt8) (H : AHeap) (hT : H 1 = some (.tab powTab)) (hs0 : s.length ≤ maxLen) : Pure lG_Valid_id [.str s] H (.bool true) := by
  refine lG_Valid_enter rfl ?_
  have hml := maxLen_eq
  by_cases hs : s.length ≤ 300
  · have hs' : ¬ 300 < (s.length : Int) := by omega
    have hs2 : (s.length : Int) ≤ 300 := by omega
    simp [lG_Valid_rs, allocQ, hs, hs', hs2, hs0]
    refine (gp_Parse s (by omega) H).use ?_
    simp [allocQ]
    intro b3 hb3
    by_cases he : (parseM s).2.2 = 0
    · obtain ⟨hl, hp⟩ := parse_again hs he
      obtain ⟨hv, hsz⟩ := parse_ok he
      generalize (parseM s).1 = f at hl hp hv hsz ⊢
      have q3 : (H.set b3 (.box f.av)) b3 = some (.box f.av) := AHeap.set_same _ _ _
      have hle : HLe H (H.set b3 (.box f.av)) := .set hb3
      have hT1 := hle.x 1 _ rfl hT
      simp [he]
      generalize H.set b3 (.box f.av) = H1 at q3 hle hT1 ⊢
      refine (format_any hT1 hv (by omega)).use ?_
      simp
      refine (gp_Parse _ hl H1).use ?_
      rw [hp]
      simp [allocQ]
      intro b6 hb6
      have n36 : b3 ≠ b6 := ne_of_some_none q3 hb6
      refine (law_awake _).use ?_
      simp [AHeap.set_ne, n36, n36.symm, q3]
      have hfl := szF_flat f
      refine (gf_Valid f (by omega) _).use ?_
      simp [hv, AHeap.set_ne, n36, n36.symm, q3]
      refine (gf_Equal f f _).use ?_
      simp [eqB_self]
      exact hle.trans (.set hb6)
    · have he' : ((parseM s).2.2 != 0) = true := by simpa using he
      simp [he, he']
      refine (law_awake _).use ?_
      simp
      exact .set hb3
  · have hs' : 300 < (s.length : Int) := by omega
    have hs2 : ¬ (s.length : Int) ≤ 300 := by omega
    simp [lG_Valid_rs, allocQ, hs, hs', hs2, hs0]
    refine (law_awake H).use ?_
    simp
end Go.Av
