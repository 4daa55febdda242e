/- The statements: Valid, Equal, Format as the reference has them. -/
import Derived.Test.YtpdbcfnmhicnbaaDoorFnLin
import Derived.Test.YtpdbcfnmhicnbaaDoorFnLfo
import Derived.Test.YtpdbcfnmhicnbaaDoorFnLeq
import Derived.Test.YtpdbcfnmhicnbaaDoorFnLva
import Derived.Test.YtpdbcfnmhicnbaaDoorTi
import Derived.Test.YtpdbcfnmhicnbaaDoorTf
set_option linter.unusedVariables false
set_option linter.unusedSimpArgs false
namespace Go.Av
open Go Go.Proofs

theorem few_len {g : Gm} (h : fewG g = true) : g.terms.length ≤ 1000 ∧ g.nonterms.length ≤ 1000 ∧ g.rules.length ≤ 1000 := by
  simp only [fewG, Bool.and_eq_true, decide_eq_true_iff] at h
  omega

theorem law_Valid (g : Gm) (H : AHeap) (hM : GM H) (hT : GT H) : Pure law18_GrammarValidMatchesReference_id [g.av] H (.bool true) := by
  refine law18_GrammarValidMatchesReference_enter rfl ?_
  simp [law18_GrammarValidMatchesReference_rs, allocQ]
  intro b hb
  have hbx : (H.set b (.box g.av)) b = some (.box g.av) := AHeap.set_same _ _ _
  have hH1 : HLe H (H.set b (.box g.av)) := .set hb
  have hT1 := hT.set (o := .box g.av) hb
  have hM1 := hM.set (o := .box g.av) hb
  refine (l_awake _ hM1 hT1).use ?_
  simp
  generalize H.set b (.box g.av) = H1 at *
  refine law18_GrammarValidMatchesReference_c6_lex ?_
  simp [hbx]
  refine ⟨_, l_few g _, ?_⟩
  cases hf : fewG g
  · simp
    exact hH1
  obtain ⟨l1, l2, l3⟩ := few_len hf
  simp [hbx]
  refine ⟨_, g_Valid g l1 l2 _ hM1, ?_⟩
  refine ⟨_, r_Valid g l1 l2 _, ?_⟩
  simp
  exact hH1

theorem law_Format (g : Gm) (H : AHeap) (hM : GM H) (hT : GT H) : Pure law18_GrammarFormatMatchesReference_id [g.av] H (.bool true) := by
  refine law18_GrammarFormatMatchesReference_enter rfl ?_
  simp [law18_GrammarFormatMatchesReference_rs, allocQ]
  intro b hb
  have hbx : (H.set b (.box g.av)) b = some (.box g.av) := AHeap.set_same _ _ _
  have hH1 : HLe H (H.set b (.box g.av)) := .set hb
  have hT1 := hT.set (o := .box g.av) hb
  have hM1 := hM.set (o := .box g.av) hb
  refine (l_awake _ hM1 hT1).use ?_
  simp
  generalize H.set b (.box g.av) = H1 at *
  refine law18_GrammarFormatMatchesReference_c6_lex ?_
  simp [hbx]
  refine ⟨_, l_few g _, ?_⟩
  cases hf : fewG g
  · simp
    exact hH1
  obtain ⟨l1, l2, l3⟩ := few_len hf
  simp [hbx]
  refine ⟨_, g_Format g l1 l2 _ hM1 hT1, ?_⟩
  refine ⟨_, r_Format g l1 l2 _ hT1, ?_⟩
  simp
  exact hH1

theorem law_Equal (a c : Gm) (H : AHeap) (hM : GM H) (hT : GT H) : Pure law18_GrammarEqualMatchesReference_id [a.av, c.av] H (.bool true) := by
  refine law18_GrammarEqualMatchesReference_enter rfl ?_
  simp [law18_GrammarEqualMatchesReference_rs, allocQ]
  intro b2 hb2 b3 hb3
  have hM1 := (hM.set (o := .box a.av) hb2).set (o := .box c.av) hb3
  have hT1 := (hT.set (o := .box a.av) hb2).set (o := .box c.av) hb3
  obtain ⟨H1, e1, q2, q3, hle⟩ := two_boxes (o' := .box c.av) hb2 hb3
  rw [e1] at hM1 hT1 ⊢
  refine (l_awake _ hM1 hT1).use ?_
  simp [q2, q3]
  refine (l_few a _).use ?_
  cases hf : fewG a
  · simp
    exact hle
  obtain ⟨l1, l2, l3⟩ := few_len hf
  simp [q2, q3]
  refine (l_few c _).use ?_
  cases hf2 : fewG c
  · simp
    exact hle
  obtain ⟨l4, l5, l6⟩ := few_len hf2
  simp
  refine law18_GrammarEqualMatchesReference_c11_lex ?_
  simp [q2, q3]
  refine ⟨_, g_Equal a c _, ?_⟩
  refine ⟨_, r_Equal a c _, ?_⟩
  simp [q2, q3]
  refine ⟨_, g_Equal a a _, ?_⟩
  simp [eqB_self]
  exact hle

theorem law_FormatInjective (hinj : ∀ g h : Gm, VG g → VG h → fmtG g = fmtG h → g = h) (a c : Gm) (H : AHeap) (hM : GM H) (hT : GT H) : Pure law18_GrammarFormatInjective_id [a.av, c.av] H (.bool true) := by
  refine law18_GrammarFormatInjective_enter rfl ?_
  simp [law18_GrammarFormatInjective_rs, allocQ]
  intro b2 hb2 b3 hb3
  have hM1 := (hM.set (o := .box a.av) hb2).set (o := .box c.av) hb3
  have hT1 := (hT.set (o := .box a.av) hb2).set (o := .box c.av) hb3
  obtain ⟨H1, e1, q2, q3, hle⟩ := two_boxes (o' := .box c.av) hb2 hb3
  rw [e1] at hM1 hT1 ⊢
  refine (l_awake _ hM1 hT1).use ?_
  simp [q2, q3]
  refine (l_few a _).use ?_
  cases hf : fewG a
  · simp
    exact hle
  obtain ⟨l1, l2, l3⟩ := few_len hf
  simp [q2, q3]
  refine (l_few c _).use ?_
  cases hf2 : fewG c
  · simp
    exact hle
  obtain ⟨l4, l5, l6⟩ := few_len hf2
  simp [q2, q3]
  refine (r_Valid a l1 l2 _).use ?_
  cases hv : validG a
  · simp
    exact hle
  simp [q2, q3]
  refine (r_Valid c l4 l5 _).use ?_
  cases hv2 : validG c
  · simp
    exact hle
  simp
  refine law18_GrammarFormatInjective_c11_lex ?_
  simp [q2, q3]
  refine ⟨_, g_Format a l1 l2 _ hM1 hT1, ?_⟩
  refine ⟨_, g_Format c l4 l5 _ hM1 hT1, ?_⟩
  simp [q2, q3]
  refine ⟨_, g_Equal a c _, ?_⟩
  by_cases e : a = c
  · subst e
    simp [eqB_self]
    exact hle
  · have ne : fmtG a ≠ fmtG c := fun h => e (hinj a c ((validG_iff a).1 hv) ((validG_iff c).1 hv2) h)
    have ne' : (fmtG a == fmtG c) = false := by simpa using ne
    simp [eqB_false.2 e, ne, ne']
    exact hle
end Go.Av
