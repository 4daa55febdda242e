/- GrammarFormatInjective: for every input the law returns true, and the input reads as it did. The card ties the listed tables to the program's text. -/
import Derived.Test.YtpdbcfnmhicnbaaDoorA8
import Derived.Test.YtpdbcfnmhicnbaaDoorRowC
set_option linter.unusedVariables false
set_option linter.unusedSimpArgs false
namespace Go.Proofs.YtpdbcfnmhicnbaaDoor
open Go.ChangeShapes Go.WideShapes Go.ChangeAt Go.RowKit Go.Av
open Go.ChangeMaps (open_string shut_string)
set_option maxRecDepth 100000 in
theorem grammarFormatInjective_lifted (os : Os) (started : os.Started) (H : Type) (enc : TypeId × Value → H) :
    ReturnsInHanded {} Tryd.checked os 6 .any (fun w args => (Rows.grammarFormatInjectiveSpec.pre enc Tryd.prog Tryd.f6 [] false w args ∧ laidMetH Tryd.prog laid3 w) ∧ sizedMet enc Tryd.prog Tryd.f6 (OpenSpec.ofChange Rows.grammarFormatInjectiveSpec) false w args)
      (Rows.grammarFormatInjectiveSpec.post enc Tryd.prog Tryd.f6 false true false false) := by
  refine wrap_and_shaped (C := Tryd.checked) (X := fun w _ => laidMetH Tryd.prog laid3 w) (fun _ _ _ hh h => h.of_heap hh) own started (by kernel_rfl) Tryd.func6
    (ChangeSpec.witness_at (enc := enc) (C := Tryd.checked) (os := os) (X := fun w _ => laidMetH Tryd.prog laid3 w) false (laidWorld os) #[noGram, noGram] 8 rfl (by kernel_rfl) (by kernel_rfl) (by kernel_rfl) (by kernel_rfl) (by kernel_rfl) (laidWorld_met os _)) ?_
  intro W base args ds gs before hval0 hW hreach0 hL hsh
  have hval : ∀ (j : Nat) t v, Tryd.f6.params[j]? = some t → args[j]? = some v → Value.okWide Tryd.prog W .any base t v := hval0
  have hreach : (DataW.weightsEach Tryd.prog (Tryd.f6.params.toList ++ []) (ds ++ gs)).all (· ≤ reachBytes) = true := hreach0
  have hW' := hW
  obtain ⟨p, q, hA0, hV, rfl, hfz, hnd⟩ := hW
  have hA : DataW.TrodAll enc Tryd.prog W 0 (fun _ => true) true Tryd.f6.params.toList args.toList ds p := hA0
  rw [Tryd.params6] at hA hval hreach
  obtain ⟨v0, v1, d0, d1, p0, p1, rfl, rfl, rfl, h0, h1⟩ := trodAll_two hA
  obtain ⟨rfl, rfl⟩ := trodVars_none hV
  have hlt : ∀ x ∈ (p0 ++ p1) ++ [], x.block < W.heap.size := fun x hx => hW'.lt x hx
  obtain ⟨hk0, hk1⟩ := weights2 hreach
  obtain ⟨f0, hr0⟩ := gm_arg h0 (hval 0 25 v0 rfl rfl) hk0
  obtain ⟨f1, hr1⟩ := gm_arg h1 (hval 1 25 v1 rfl rfl) hk1
  refine (lawT (args := [f0.av, f1.av]) (us := [v0, v1]) rfl hL hsh (fun H a b => law_Inj f0 f1 H a b  ) (fun j v u hv hu => ?_)).mono fun e W' ⟨he, bel⟩ => ?_
  · match j with
    | 0 => simp at hv hu; subst hv hu; exact hr0
    | 1 => simp at hv hu; subst hv hu; exact hr1
    | j + 2 => simp at hv
  subst he
  exact ⟨_, rfl, _, _, _, [], _, [], hW', trodAll_mk1 (shut_bool Tryd.underlying4 _), (trodAll_mk2 (Below.trod laidOut read25 row25 h0 bel fun x hx => hlt x (by simp [hx])) (Below.trod laidOut read25 row25 h1 bel fun x hx => hlt x (by simp [hx]))), rfl, bel.frame _, fun h => by cases h⟩

theorem grammarFormatInjective_holds : Rows.GrammarFormatInjectiveSaid :=
  OpenClaim.holds_of_wide 6 Tryd.f6 rfl rfl rfl rfl rfl rfl rfl ⟨rfl, rfl, rfl, rfl, rfl⟩ rfl rfl rfl rfl rfl (by kernel_rfl) Tryd.func6 (by kernel_rfl)
    (of_decide_eq_true (by kernel_rfl)) (by unfold Func.isWrapper; first | (rw [if_pos (by decide +kernel)]; kernel_rfl) | (rw [if_neg (by decide +kernel)]; exact ⟨rfl, rfl⟩))
    (fun os started H enc _ => grammarFormatInjective_lifted os started H enc)

theorem grammarFormatInjective_card : Rows.GrammarFormatInjectiveCardSaid :=
  Claim7.holds_tied_plain_at .later [] [.data, .data, .data] true (true, _) false
    grammarFormatInjective_holds (fun _ h => by cases h) (by kernel_rfl) (fun _ h => by cases h) grammarFormatInjective_row_tie rfl ⟨rfl, rfl⟩ (by kernel_rfl) rfl
    (fun f fn hf hfn => by
      obtain rfl : f = 6 := Option.some.inj ((show Tryd.prog.funcNamed "emendate/emendatelaw18.GrammarFormatInjective" = some 6 by kernel_rfl).symm.trans hf) |>.symm
      obtain rfl : fn = Tryd.f6 := (Option.some.inj (Tryd.func6.symm.trans hfn)).symm
      refine ⟨by kernel_rfl, fun j t ht => ?_⟩
      rw [Tryd.params6] at ht
      match j, ht with
      | 0, ht =>
        have e : t = 25 := by simpa using ht.symm
        subst e
        exact (show Tryd.prog.wantsStandIn 25 = false by kernel_rfl)
      | 1, ht =>
        have e : t = 25 := by simpa using ht.symm
        subst e
        exact (show Tryd.prog.wantsStandIn 25 = false by kernel_rfl)
      | j + 2, ht => simp at ht)
    (by kernel_rfl)
#print axioms grammarFormatInjective_card
end Go.Proofs.YtpdbcfnmhicnbaaDoor
