/- Part of the proof: C23. No condition. -/
import Derived.Test.YtidbbhdejopdgaaC22
set_option linter.unusedVariables false
set_option linter.unusedSimpArgs false
namespace Go.Av
open Go Go.Proofs

@[simp] theorem parse_av_size (f : GF) : f.av.size = 3 := rfl

theorem law_ViablePrefix (s : List UInt8) (H : AHeap) : Pure law17_GrammarparserViablePrefix_id [.str s] H (.bool true) := by
  refine law17_GrammarparserViablePrefix_enter rfl ?_
  by_cases hlong : (300 : Int) < s.length
  · simp [law17_GrammarparserViablePrefix_rs, hlong]
    intro _
    refine (law_awake H).use ?_
    simp
  · simp [law17_GrammarparserViablePrefix_rs, hlong, -law17_GrammarparserViablePrefix_c23_eq]
    intro hm
    have hs : s.length ≤ 1000000 := by omega
    simp [-law17_GrammarparserViablePrefix_c22_eq]
    refine (gp_Parse s hs H).use ?_
    obtain ⟨⟨f, at_, e⟩, hp⟩ : ∃ p, parseM s = p := ⟨_, rfl⟩
    rw [hp]
    simp [allocQ, -law17_GrammarparserViablePrefix_c22_eq]
    intro b1 hb1
    have hl1 : HLe H (H.set b1 (.box f.av)) := .set hb1
    generalize H.set b1 (.box f.av) = H1 at *
    by_cases he : e = 3
    · subst he
      have hv := law_viable hs (by rw [hp])
      rw [hp] at hv
      simp only at hv
      obtain ⟨h0, h1, h2⟩ := hv
      have a1 : ¬ at_ < 0 := by omega
      have a2 : ¬ (s.length : Int) < at_ := by omega
      simp [a1, a2, h0, h1]
      intro _
      refine (gp_Parse _ (by simp; omega) H1).use ?_
      generalize parseM (s.take at_.toNat) = q at h2 ⊢
      obtain ⟨g, k, e2⟩ := q
      simp only at h2
      simp [allocQ, -law17_GrammarparserViablePrefix_c18_eq]
      intro b2 hb2
      have hl2 : HLe H (H1.set b2 (.box g.av)) := hl1.trans (.set hb2)
      generalize H1.set b2 (.box g.av) = H2 at *
      simp
      refine (law_awake _).use ?_
      by_cases c0 : e2 = 0
      · subst c0
        simp
        exact hl2
      · have c0b : (e2 == 0) = false := by simpa using c0
        by_cases c1 : e2 = 1
        · subst c1
          simp
          exact hl2
        · have c1b : (e2 == 1) = false := by simpa using c1
          have hk : k = at_ := by omega
          subst hk
          simp [c0b, c1b]
          exact hl2
    · have heb : (e != 3) = true := by simpa using he
      have heb2 : (e == 3) = false := by simpa using he
      simp [he, heb, heb2]
      refine (law_awake _).use ?_
      simp
      exact hl1

theorem law_ErrorIsFinal (s m : List UInt8) (H : AHeap) : Pure law17_GrammarparserErrorIsFinal_id [.str s, .str m] H (.bool true) := by
  refine law17_GrammarparserErrorIsFinal_enter rfl ?_
  by_cases hlong : (200 : Int) < s.length
  · simp [law17_GrammarparserErrorIsFinal_rs, hlong]
    intro _
    refine (law_awake H).use ?_
    simp
  · have hlong' : (s.length : Int) ≤ 200 := by omega
    by_cases hlm : (100 : Int) < m.length
    · simp [law17_GrammarparserErrorIsFinal_rs, hlong, hlm, hlong']
      intro _ _
      refine (law_awake H).use ?_
      simp
    · simp [law17_GrammarparserErrorIsFinal_rs, hlong, hlong', hlm, -law17_GrammarparserErrorIsFinal_c23_eq]
      intro hm hm2
      have hs : s.length ≤ 1000000 := by omega
      simp [-law17_GrammarparserErrorIsFinal_c22_eq]
      refine (gp_Parse s hs H).use ?_
      obtain ⟨⟨f, at_, e⟩, hp⟩ : ∃ p, parseM s = p := ⟨_, rfl⟩
      rw [hp]
      simp [allocQ, -law17_GrammarparserErrorIsFinal_c22_eq]
      intro b1 hb1
      have hl1 : HLe H (H.set b1 (.box f.av)) := .set hb1
      generalize H.set b1 (.box f.av) = H1 at *
      by_cases he : e = 3
      · subst he
        by_cases hat : (s.length : Int) ≤ at_
        · simp [hat]
          intro _
          refine (law_awake _).use ?_
          simp
          exact hl1
        · have hat' : at_ < s.length := by omega
          have hv := law_final (m := m) (s := s) (by rw [hp]) (by rw [hp]; exact hat')
          have h0 := (law_viable hs (by rw [hp])).1
          rw [hp] at hv h0
          simp only at hv h0
          have a1 : ¬ at_ < 0 := by omega
          simp [hat, hat', a1, h0]
          have hml := maxLen_eq
          intro _
          refine ⟨by omega, by omega, ?_⟩
          refine (gp_Parse _ (by simp; omega) H1).use ?_
          rw [hv]
          simp [allocQ, -law17_GrammarparserErrorIsFinal_c18_eq]
          intro b2 hb2
          have hl2 : HLe H (H1.set b2 (.box (GF.av ⟨[], [], []⟩))) := hl1.trans (.set hb2)
          generalize H1.set b2 (.box (GF.av ⟨[], [], []⟩)) = H2 at *
          simp
          refine (law_awake _).use ?_
          simp
          exact hl2
      · have heb : (e != 3) = true := by simpa using he
        have heb2 : (e == 3) = false := by simpa using he
        simp [he, heb, heb2]
        refine (law_awake _).use ?_
        simp
        exact hl1
end Go.Av
