/- Functions of the given program, compiled to the own form by program. -/
import Derived.Test.YtondhmpdmbjmdaaDoorProg
import Derived.KernelRfl
import Derived.Test.YtondhmpdmbjmdaaDoorAvF
import Derived.Test.YtondhmpdmbjmdaaDoorFns1
set_option linter.unusedVariables false
set_option linter.unusedSimpArgs false
namespace Go.Av
open Go Go.Proofs
/-! emendate.emendatelaw16.GrammarfileValid -/
def law16_GrammarfileValid_kl : Nat → List Nat
  | 0 => [0, 2]
  | 1 => [3, 4]
  | 2 => [1, 5, 6]
  | 3 => [1, 5, 7, 8, 9, 10, 11, 12, 13, 14]
  | _ => []
def law16_GrammarfileValid_ow : Nat → Nat → Bool := fun _ _ => false
def law16_GrammarfileValid_c0 : AC := .reg [⟨some 1, none, .box (.t 0) 3 25⟩, ⟨some 2, none, .mov (.c (.bool false))⟩] [0, 2]
@[simp] theorem law16_GrammarfileValid_c0_eq {K : AK} {env : Env} {H : AHeap} : aw PP law16_GrammarfileValid_c0 K env H = awOps PP [⟨some 1, none, .box (.t 0) 3 25⟩, ⟨some 2, none, .mov (.c (.bool false))⟩] (regK K [0, 2]) (panK K) env H := aw_reg _ _
def law16_GrammarfileValid_c1 : AC := .reg [⟨some 3, none, .ld true 3 (.t 1)⟩, ⟨some 4, none, .call (.c (.fn (.func 11) [] [])) [.t 3, .c (.int (.i64) 200)]⟩, ⟨some 5, none, .not (.t 4)⟩] [3, 4]
@[simp] theorem law16_GrammarfileValid_c1_eq {K : AK} {env : Env} {H : AHeap} : aw PP law16_GrammarfileValid_c1 K env H = awOps PP [⟨some 3, none, .ld true 3 (.t 1)⟩, ⟨some 4, none, .call (.c (.fn (.func 11) [] [])) [.t 3, .c (.int (.i64) 200)]⟩, ⟨some 5, none, .not (.t 4)⟩] (regK K [3, 4]) (panK K) env H := aw_reg _ _
def law16_GrammarfileValid_c2 : AC := .reg [⟨some 6, none, .call (.c (.fn (.func 12) [] [])) []⟩, ⟨some 2, none, .mov (.t 6)⟩] [1, 5, 6]
@[simp] theorem law16_GrammarfileValid_c2_eq {K : AK} {env : Env} {H : AHeap} : aw PP law16_GrammarfileValid_c2 K env H = awOps PP [⟨some 6, none, .call (.c (.fn (.func 12) [] [])) []⟩, ⟨some 2, none, .mov (.t 6)⟩] (regK K [1, 5, 6]) (panK K) env H := aw_reg _ _
def law16_GrammarfileValid_c3 : AC := .seq law16_GrammarfileValid_c2 .ret
@[simp] theorem law16_GrammarfileValid_c3_eq {K : AK} {env : Env} {H : AHeap} : aw PP law16_GrammarfileValid_c3 K env H = aw PP law16_GrammarfileValid_c2 (seqK PP .ret K) env H := aw_seq law16_GrammarfileValid_c2 .ret
def law16_GrammarfileValid_c4 : AC := .cond (.t 5) law16_GrammarfileValid_c3 .skip
@[simp] theorem law16_GrammarfileValid_c4_eq {K : AK} {env : Env} {H : AHeap} : aw PP law16_GrammarfileValid_c4 K env H = condQ PP (Opd.ev env (.t 5)) law16_GrammarfileValid_c3 .skip K env H := aw_cond _ law16_GrammarfileValid_c3 .skip
def law16_GrammarfileValid_c5 : AC := .seq law16_GrammarfileValid_c1 law16_GrammarfileValid_c4
@[simp] theorem law16_GrammarfileValid_c5_eq {K : AK} {env : Env} {H : AHeap} : aw PP law16_GrammarfileValid_c5 K env H = aw PP law16_GrammarfileValid_c1 (seqK PP law16_GrammarfileValid_c4 K) env H := aw_seq law16_GrammarfileValid_c1 law16_GrammarfileValid_c4
def law16_GrammarfileValid_c6_ops : List (AI × List Nat) := [(⟨some 7, none, .call (.c (.fn (.func 12) [] [])) []⟩, []), (⟨some 8, none, .mov (.t 7)⟩, [0, 0]), (⟨some 9, some (8, true), .ld true 3 (.t 1)⟩, [1]), (⟨some 10, some (8, true), .call (.c (.fn (.func 13) [] [])) [.t 9]⟩, [2, 1, 1]), (⟨some 11, some (8, true), .ld true 3 (.t 1)⟩, [1]), (⟨some 12, some (8, true), .call (.c (.fn (.func 14) [] [])) [.t 11]⟩, [4, 3, 1]), (⟨some 13, some (8, true), .beq false (.t 10) (.t 12)⟩, [3, 5, 1]), (⟨some 14, none, .pick (.t 8) (.t 13) (.c (.bool false))⟩, [1, 6]), (⟨some 2, none, .mov (.t 14)⟩, [7, 5, 0, 1, 2, 3, 4, 5, 6, 7])]
def law16_GrammarfileValid_c6 : AC := .dreg law16_GrammarfileValid_c6_ops [1, 5, 7, 8, 9, 10, 11, 12, 13, 14]
theorem law16_GrammarfileValid_c6_ok : lexOK law16_GrammarfileValid_c6_ops (fun i => [].contains i) = true := by kernel_rfl
theorem law16_GrammarfileValid_c6_lex {K : AK} {env : Env} {H : AHeap} (h : awLex PP (fun i => [].contains i) (regK K [1, 5, 7, 8, 9, 10, 11, 12, 13, 14]) (panK K) [(0, ⟨some 7, none, .call (.c (.fn (.func 12) [] [])) []⟩), (1, ⟨some 8, none, .mov (.t 7)⟩), (2, ⟨some 9, some (8, true), .ld true 3 (.t 1)⟩), (3, ⟨some 10, some (8, true), .call (.c (.fn (.func 13) [] [])) [.t 9]⟩), (4, ⟨some 11, some (8, true), .ld true 3 (.t 1)⟩), (5, ⟨some 12, some (8, true), .call (.c (.fn (.func 14) [] [])) [.t 11]⟩), (6, ⟨some 13, some (8, true), .beq false (.t 10) (.t 12)⟩), (7, ⟨some 14, none, .pick (.t 8) (.t 13) (.c (.bool false))⟩), (8, ⟨some 2, none, .mov (.t 14)⟩)] env H) : aw PP law16_GrammarfileValid_c6 K env H := aw_dreg_lex _ law16_GrammarfileValid_c6_ok h
-- law16_GrammarfileValid_c6: the textual order does not serve by itself
def law16_GrammarfileValid_c7 : AC := .seq law16_GrammarfileValid_c6 .ret
@[simp] theorem law16_GrammarfileValid_c7_eq {K : AK} {env : Env} {H : AHeap} : aw PP law16_GrammarfileValid_c7 K env H = aw PP law16_GrammarfileValid_c6 (seqK PP .ret K) env H := aw_seq law16_GrammarfileValid_c6 .ret
def law16_GrammarfileValid_c8 : AC := .seq law16_GrammarfileValid_c5 law16_GrammarfileValid_c7
@[simp] theorem law16_GrammarfileValid_c8_eq {K : AK} {env : Env} {H : AHeap} : aw PP law16_GrammarfileValid_c8 K env H = aw PP law16_GrammarfileValid_c5 (seqK PP law16_GrammarfileValid_c7 K) env H := aw_seq law16_GrammarfileValid_c5 law16_GrammarfileValid_c7
def law16_GrammarfileValid_c9 : AC := .seq law16_GrammarfileValid_c0 law16_GrammarfileValid_c8
@[simp] theorem law16_GrammarfileValid_c9_eq {K : AK} {env : Env} {H : AHeap} : aw PP law16_GrammarfileValid_c9 K env H = aw PP law16_GrammarfileValid_c0 (seqK PP law16_GrammarfileValid_c8 K) env H := aw_seq law16_GrammarfileValid_c0 law16_GrammarfileValid_c8
def law16_GrammarfileValid_ac : AC := law16_GrammarfileValid_c9
@[simp] theorem law16_GrammarfileValid_ac_eq {K : AK} {env : Env} {H : AHeap} : aw PP law16_GrammarfileValid_ac K env H = aw PP law16_GrammarfileValid_c9 K env H := Eq.trans rfl rfl
def law16_GrammarfileValid_rs : List ARV := [.tmp 2]
abbrev law16_GrammarfileValid_id : Nat := 3
theorem law16_GrammarfileValid_comp : compF PP law16_GrammarfileValid_kl law16_GrammarfileValid_ow 1 Tryd.f3 = some (law16_GrammarfileValid_ac, law16_GrammarfileValid_rs) := by kernel_rfl
theorem law16_GrammarfileValid_enter {args : List AV} {H : AHeap} {post : ARes → AHeap → Prop} (ha : args.length = 1) (h : aw PP law16_GrammarfileValid_ac (retK law16_GrammarfileValid_rs post) (argEnv 0 args) H) : ACalls PP law16_GrammarfileValid_id args H post := .enterF Tryd.func3 PP_mix law16_GrammarfileValid_comp ha h

end Go.Av
