/- GrammarRemoveRule: for every input the law returns true, and the input reads as it did. The card ties the listed tables to the program's text. -/
import Derived.Test.YtpdbcfnmhicnbaaDoorA5
import Derived.Test.YtpdbcfnmhicnbaaDoorRowC
set_option linter.unusedVariables false
set_option linter.unusedSimpArgs false
namespace Go.Proofs.YtpdbcfnmhicnbaaDoor
open Go.ChangeShapes Go.WideShapes Go.ChangeAt Go.RowKit Go.Av
open Go.ChangeMaps (open_string shut_string)
set_option maxRecDepth 100000 in
theorem grammarRemoveRule_lifted (os : Os) (started : os.Started) (H : Type) (enc : TypeId × Value → H) :
    ReturnsInHanded {} Tryd.checked os 9 .any (fun w args => (Rows.grammarRemoveRuleSpec.pre enc Tryd.prog Tryd.f9 [] false w args ∧ laidMetH Tryd.prog laid3 w) ∧ sizedMet enc Tryd.prog Tryd.f9 (OpenSpec.ofChange Rows.grammarRemoveRuleSpec) false w args)
      (Rows.grammarRemoveRuleSpec.post enc Tryd.prog Tryd.f9 false true false false) := by
  refine wrap_and_shaped (C := Tryd.checked) (X := fun w _ => laidMetH Tryd.prog laid3 w) (fun _ _ _ hh h => h.of_heap hh) own started (by kernel_rfl) Tryd.func9
    (ChangeSpec.witness_at (enc := enc) (C := Tryd.checked) (os := os) (X := fun w _ => laidMetH Tryd.prog laid3 w) false (laidWorld os) #[noGram, .int .u8 0] 8 rfl (by kernel_rfl) (by kernel_rfl) (by kernel_rfl) (by kernel_rfl) (by kernel_rfl) (laidWorld_met os _)) ?_
  intro W base args ds gs before hval0 hW hreach0 hL hsh
  have hval : ∀ (j : Nat) t v, Tryd.f9.params[j]? = some t → args[j]? = some v → Value.okWide Tryd.prog W .any base t v := hval0
  have hreach : (DataW.weightsEach Tryd.prog (Tryd.f9.params.toList ++ []) (ds ++ gs)).all (· ≤ reachBytes) = true := hreach0
  have hW' := hW
  obtain ⟨p, q, hA0, hV, rfl, hfz, hnd⟩ := hW
  have hA : DataW.TrodAll enc Tryd.prog W 0 (fun _ => true) true Tryd.f9.params.toList args.toList ds p := hA0
  rw [Tryd.params9] at hA hval hreach
  obtain ⟨v0, v1, d0, d1, p0, p1, rfl, rfl, rfl, h0, h1⟩ := trodAll_two hA
  obtain ⟨rfl, rfl⟩ := trodVars_none hV
  have hlt : ∀ x ∈ (p0 ++ p1) ++ [], x.block < W.heap.size := fun x hx => hW'.lt x hx
  obtain ⟨hk0, hk1⟩ := weights2 hreach
  obtain ⟨f0, hr0⟩ := gm_arg h0 (hval 0 25 v0 rfl rfl) hk0
  obtain ⟨n1, rfl, rfl, rfl, w1⟩ := open_int Tryd.underlying5 (hval 1 5 v1 rfl rfl) h1
  refine (lawT (args := [f0.av, .int .u8 n1]) (us := [v0, .int .u8 n1]) rfl hL hsh (fun H a b => law_Remove' f0 n1 H a b  w1) (fun j v u hv hu => ?_)).mono fun e W' ⟨he, bel⟩ => ?_
  · match j with
    | 0 => simp at hv hu; subst hv hu; exact hr0
    | 1 => simp at hv hu; subst hv hu; exact Rep1.v ⟨.int _ _, rfl⟩
    | j + 2 => simp at hv
  subst he
  exact ⟨_, rfl, _, _, _, [], _, [], hW', trodAll_mk1 (shut_bool Tryd.underlying4 _), (trodAll_mk2 (Below.trod laidOut read25 row25 h0 bel fun x hx => hlt x (by simp [hx])) (shut_int Tryd.underlying5 w1)), rfl, bel.frame _, fun h => by cases h⟩

theorem grammarRemoveRule_holds : Rows.GrammarRemoveRuleSaid :=
  OpenClaim.holds_of_wide 9 Tryd.f9 rfl rfl rfl rfl rfl rfl rfl ⟨rfl, rfl, rfl, rfl, rfl⟩ rfl rfl rfl rfl rfl (by kernel_rfl) Tryd.func9 (by kernel_rfl)
    (of_decide_eq_true (by kernel_rfl)) (by unfold Func.isWrapper; first | (rw [if_pos (by decide +kernel)]; kernel_rfl) | (rw [if_neg (by decide +kernel)]; exact ⟨rfl, rfl⟩))
    (fun os started H enc _ => grammarRemoveRule_lifted os started H enc)

theorem grammarRemoveRule_card : Rows.GrammarRemoveRuleCardSaid :=
  Claim7.holds_tied_plain_at .later [] [.data, .data, .data] true (true, _) false
    grammarRemoveRule_holds (fun _ h => by cases h) (by kernel_rfl) (fun _ h => by cases h) grammarRemoveRule_row_tie rfl ⟨rfl, rfl⟩ (by kernel_rfl) rfl
    (fun f fn hf hfn => by
      obtain rfl : f = 9 := Option.some.inj ((show Tryd.prog.funcNamed "emendate/emendatelaw18.GrammarRemoveRule" = some 9 by kernel_rfl).symm.trans hf) |>.symm
      obtain rfl : fn = Tryd.f9 := (Option.some.inj (Tryd.func9.symm.trans hfn)).symm
      refine ⟨by kernel_rfl, fun j t ht => ?_⟩
      rw [Tryd.params9] at ht
      match j, ht with
      | 0, ht =>
        have e : t = 25 := by simpa using ht.symm
        subst e
        exact (show Tryd.prog.wantsStandIn 25 = false by kernel_rfl)
      | 1, ht =>
        have e : t = 5 := by simpa using ht.symm
        subst e
        exact (show Tryd.prog.wantsStandIn 5 = false by kernel_rfl)
      | j + 2, ht => simp at ht)
    (by kernel_rfl)
#print axioms grammarRemoveRule_card
end Go.Proofs.YtpdbcfnmhicnbaaDoor
