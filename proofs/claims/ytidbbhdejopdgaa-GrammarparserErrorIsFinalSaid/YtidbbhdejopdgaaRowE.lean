/- GrammarparserErrorIsFinal: for every pair of texts the law returns true, and the texts read as they did. -/
import Derived.Test.YtidbbhdejopdgaaC23
import Derived.Test.YtidbbhdejopdgaaLaw
import Derived.Test.YtidbbhdejopdgaaRows
set_option linter.unusedVariables false
set_option linter.unusedSimpArgs false
namespace Go.Proofs.Ytidbbhdejopdgaa
open Go.ChangeShapes Go.WideShapes Go.ChangeAt Go.RowKit Go.Av
open Go.ChangeMaps (open_string shut_string)

theorem own : ownKnob Try.prog.godebug = none := by kernel_rfl
theorem laidOut : laidOutB Try.prog = true := by kernel_rfl

set_option maxRecDepth 100000 in
theorem final_lifted (os : Os) (started : os.Started) (H : Type) (enc : TypeId × Value → H) :
    ReturnsInHanded {} Try.checked os 5 .any (Rows.grammarparserErrorIsFinalSpec.pre6 enc Try.prog Try.f5 Rows.grammarparserErrorIsFinalRow.domain false) (Rows.grammarparserErrorIsFinalSpec.post enc Try.prog Try.f5 false true false false) := by
  refine returnsInHanded_of_change (C := Try.checked) own started (by kernel_rfl) Try.func5
    (ChangeSpec.witness6 (enc := enc) (C := Try.checked) false ⟨#[], #[.string ⟨#[]⟩, .string ⟨#[]⟩], []⟩ 8 (by kernel_rfl) (by kernel_rfl) (by kernel_rfl) (by kernel_rfl)) ?_
  intro W base args ds gs before hval0 hW hcnd _
  have hval : ∀ (j : Nat) t v, Try.f5.params[j]? = some t → args[j]? = some v → Value.okWide Try.prog W .any base t v := hval0
  have hW' := hW
  obtain ⟨p, q, hA0, hV, rfl, hfz, hnd⟩ := hW
  have hA : DataW.TrodAll enc Try.prog W 0 (fun _ => true) true Try.f5.params.toList args.toList ds p := hA0
  rw [Try.params5] at hA hval
  obtain ⟨v0, vs0, d0, ds0, p0, q0, hargs, rfl, rfl, h0, r0⟩ := trodAll_cons hA
  obtain ⟨v1, vs1, d1, ds1, p1, q1, rfl, rfl, rfl, h1, r1⟩ := trodAll_cons r0
  obtain ⟨rfl, rfl, rfl⟩ := trodAll_nil r1
  obtain rfl : args = #[v0, v1] := by cases args; simp_all
  obtain ⟨rfl, rfl⟩ := trodVars_none hV
  obtain ⟨a, rfl, rfl, rfl, wa⟩ := open_string Try.underlying9 (hval 0 9 v0 rfl rfl) h0
  obtain ⟨b, rfl, rfl, rfl, wb⟩ := open_string Try.underlying9 (hval 1 9 v1 rfl rfl) h1
  clear hA0 hval0
  refine (ACalls.law (args := [.str a.data.toList, .str b.data.toList]) (us := [.string a, .string b]) rfl (law_ErrorIsFinal _ _ _) (fun j v u hv hu => ?_)).mono fun e W' ⟨he, bel⟩ => ?_
  · cases j with
    | zero => simp at hv hu; subst hv hu; exact rep_str W a wa
    | succ j =>
      cases j with
      | zero => simp at hv hu; subst hv hu; exact rep_str W b wb
      | succ j => simp at hv
  subst he
  exact ⟨_, rfl, _, _, _, [], _, [], hW', trodAll_mk1 (shut_bool Try.underlying4 _), (trodAll_cons_mk (shut_string Try.underlying9 wa) (trodAll_cons_mk (shut_string Try.underlying9 wb) trodAll_mk0)), rfl, bel.frame _, fun h => by cases h⟩

theorem final_holds : Rows.GrammarparserErrorIsFinalSaid :=
  OpenClaim.holds_of_wide 5 Try.f5 rfl rfl rfl rfl rfl rfl rfl ⟨rfl, rfl, rfl, rfl, rfl⟩ rfl rfl rfl rfl rfl (by kernel_rfl) Try.func5 (by kernel_rfl)
    (of_decide_eq_true (by kernel_rfl)) (by unfold Func.isWrapper; first | (rw [if_pos (by decide +kernel)]; kernel_rfl) | (rw [if_neg (by decide +kernel)]; exact ⟨rfl, rfl⟩))
    (fun os started H enc _ => final_lifted os started H enc)
#print axioms final_holds
end Go.Proofs.Ytidbbhdejopdgaa
