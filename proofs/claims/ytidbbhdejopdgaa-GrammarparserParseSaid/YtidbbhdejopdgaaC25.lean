/- Part of the proof: C25. No condition. -/
import Derived.Test.YtidbbhdejopdgaaDf
import Derived.Test.YtidbbhdejopdgaaD4
import Derived.Test.YtidbbhdejopdgaaC23
set_option linter.unusedVariables false
set_option linter.unusedSimpArgs false
namespace Go.Av
open Go Go.Proofs
theorem law_empty (H : AHeap) : Pure law17_empty_id [GF.av ⟨[], [], []⟩] H (.bool true) := by
  refine law17_empty_enter rfl ?_
  simp [law17_empty_rs, allocQ, -law17_empty_c1_eq]
  intro b hb
  have q : (H.set b (.box (GF.av ⟨[], [], []⟩))) b = some (.box (.struct [.str [], .list 2 [], .list 2 []])) := by rw [AHeap.set_same]; rfl
  have hle : HLe H (H.set b (.box (GF.av ⟨[], [], []⟩))) := .set hb
  generalize H.set b (.box (GF.av ⟨[], [], []⟩)) = H1 at *
  have hml := maxLen_eq
  simp [q]
  exact hle

theorem law_Parse (s : List UInt8) (H : AHeap) : Pure law17_GrammarparserParse_id [.str s] H (.bool true) := by
  refine law17_GrammarparserParse_enter rfl ?_
  have hml := maxLen_eq
  by_cases hlong : (300 : Int) < s.length
  · simp [law17_GrammarparserParse_rs, hlong]
    intro _
    refine (law_awake H).use ?_
    simp
  · simp [law17_GrammarparserParse_rs, hlong, -law17_GrammarparserParse_c11_eq]
    intro hm
    have hs : s.length ≤ 1000000 := by omega
    have hlv := parseM_levels s
    have hem : (parseM s).2.2 ≠ 0 → (parseM s).1 = ⟨[], [], []⟩ := by
      unfold parseM
      split
      · simp
      · split <;> simp
    simp [-law17_GrammarparserParse_c10_eq]
    refine (gp_Parse s hs H).use ?_
    have hr := r17_Parse s hs
    generalize parseM s = p at *
    obtain ⟨f, at_, e⟩ := p
    simp only at hlv hem hr
    simp [allocQ, -law17_GrammarparserParse_c10_eq]
    intro b1 hb1
    have q1 : (H.set b1 (.box f.av)) b1 = some (.box f.av) := AHeap.set_same _ _ _
    have hl1 : HLe H (H.set b1 (.box f.av)) := .set hb1
    generalize H.set b1 (.box f.av) = H1 at *
    simp [-law17_GrammarparserParse_c9_eq]
    refine (hr H1).use ?_
    simp [allocQ, -law17_GrammarparserParse_c9_eq]
    intro b2 hb2
    have n12 : b1 ≠ b2 := ne_of_some_none q1 hb2
    have q2 : (H1.set b2 (.box f.av)) b1 = some (.box f.av) := by rw [AHeap.set_ne _ _ n12]; exact q1
    have q3 : (H1.set b2 (.box f.av)) b2 = some (.box f.av) := AHeap.set_same _ _ _
    have hl2 : HLe H (H1.set b2 (.box f.av)) := hl1.trans (.set hb2)
    generalize H1.set b2 (.box f.av) = H2 at *
    simp
    refine (law_awake _).use ?_
    simp [q2, q3]
    refine (r16_Equal_self f (fun x hx => by have := hlv x hx; omega) H2).use ?_
    by_cases he : e = 0
    · subst he
      simp
      exact hl2
    · have heb : (e == 0) = false := by simpa using he
      have hf := hem he
      subst hf
      simp [he, heb, q2]
      refine (law_empty H2).use ?_
      simp
      exact hl2
end Go.Av
