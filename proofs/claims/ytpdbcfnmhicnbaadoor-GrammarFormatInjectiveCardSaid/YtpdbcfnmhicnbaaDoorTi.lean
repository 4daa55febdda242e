/- The guard of the statements: the example of the document holds. -/
import Derived.Test.YtpdbcfnmhicnbaaDoorTh
set_option linter.unusedVariables false
set_option linter.unusedSimpArgs false
namespace Go.Av
open Go Go.Proofs

theorem ex_valid : validG exG = true := by decide
theorem no_valid : validG noG = false := by decide
theorem ex_sym : symG exG [83] = (-1, true) := by decide
theorem ex_rules : rulesFrom 0 0 exG.rules = [0, 1] := by decide
theorem dec2 : Lib.decDigits 2 = [50] := by rw [Lib.decDigits]; decide
theorem ex_text : fmtG exG = [116, 101, 114, 109, 115, 32, 97, 32, 98, 10, 110, 111, 110, 116, 101, 114, 109, 115, 32, 83, 10, 115, 116, 97, 114, 116, 32, 83, 10, 83, 32, 45, 62, 32, 97, 32, 83, 32, 98, 32, 91, 112, 114, 105, 99, 101, 93, 32, 50, 10, 83, 32, 45, 62, 10] := by
  rw [fmtG, ex_valid]
  simp [textG, headT, wordsT, rulesT, ruleT, exG, ntN, symN, priceT, dec2]

theorem l_awake (H : AHeap) (hM : GM H) (hT : GT H) : Pure law18_awake_id [] H (.bool true) := by
  have hml := maxLen_eq
  refine law18_awake_enter rfl ?_
  simp [law18_awake_rs, allocQ]
  refine (l_example H).use ?_
  simp [allocQ]
  intro b hb
  have hbx : (H.set b (.box exG.av)) b = some (.box exG.av) := AHeap.set_same _ _ _
  have hH1 : HLe H (H.set b (.box exG.av)) := .set hb
  have hT1 := hT.set (o := .box exG.av) hb
  have hM1 := hM.set (o := .box exG.av) hb
  have l1 : exG.terms.length ≤ 1000 := by decide
  have l2 : exG.nonterms.length ≤ 1000 := by decide
  have l3 : exG.rules.length ≤ 1000 := by decide
  refine (g_Symbol exG [83] _ l2).use ?_
  rw [ex_sym]
  simp
  generalize H.set b (.box exG.av) = H1 at *
  refine law18_awake_c3_lex ?_
  simp [hbx]
  refine ⟨_, g_Valid exG l1 l2 _ hM1, ?_⟩
  simp [hbx, ex_valid]
  refine ⟨_, ACalls.sub1 noG_sub (g_Valid noG (by decide) (by decide) _ hM1), ?_⟩
  simp [hbx, no_valid]
  refine ⟨_, l_example _, ?_⟩
  refine ⟨_, g_Equal exG exG _, ?_⟩
  simp [hbx, eqB_self]
  refine ⟨_, g_Format exG l1 l2 _ hM1 hT1, ?_⟩
  simp [hbx, ex_text]
  refine ⟨_, g_RulesOf exG 0 _ l3, ?_⟩
  rw [ex_rules]
  simp
  exact ⟨by omega, hH1⟩
end Go.Av
