/- Functions of the given program, compiled to the own form by program. -/
import Derived.Test.YtpdbcfnmhicnbaaDoorFnB
set_option linter.unusedVariables false
set_option linter.unusedSimpArgs false
namespace Go.Av
open Go Go.Proofs
variable {K : AK} {env : Env} {H : AHeap}
/-! emendate.emendatelaw18.GrammarValidMatchesReference -/
def law18_GrammarValidMatchesReference_kl : Nat → List Nat
  | 0 => [0, 2]
  | 1 => [3]
  | 2 => [1, 4]
  | 3 => [1, 4, 5, 6, 7, 8, 9, 10, 11, 12, 13, 14]
  | _ => []
def law18_GrammarValidMatchesReference_ow : Nat → Nat → Bool := fun _ _ => false
def law18_GrammarValidMatchesReference_c0 : AC := .reg [⟨some 1, none, .box (.t 0) 4 25⟩, ⟨some 2, none, .mov (.c (.bool false))⟩] [0, 2]
@[simp] theorem law18_GrammarValidMatchesReference_c0_eq : aw PP law18_GrammarValidMatchesReference_c0 K env H = awOps PP [⟨some 1, none, .box (.t 0) 4 25⟩, ⟨some 2, none, .mov (.c (.bool false))⟩] (regK K [0, 2]) (panK K) env H := aw_reg _ _
def law18_GrammarValidMatchesReference_c1 : AC := .reg [⟨some 3, none, .call (.c (.fn (.func 10) [] [])) []⟩, ⟨some 4, none, .not (.t 3)⟩] [3]
@[simp] theorem law18_GrammarValidMatchesReference_c1_eq : aw PP law18_GrammarValidMatchesReference_c1 K env H = awOps PP [⟨some 3, none, .call (.c (.fn (.func 10) [] [])) []⟩, ⟨some 4, none, .not (.t 3)⟩] (regK K [3]) (panK K) env H := aw_reg _ _
def law18_GrammarValidMatchesReference_c2 : AC := .reg [⟨some 2, none, .mov (.c (.bool false))⟩] [1, 4]
@[simp] theorem law18_GrammarValidMatchesReference_c2_eq : aw PP law18_GrammarValidMatchesReference_c2 K env H = awOps PP [⟨some 2, none, .mov (.c (.bool false))⟩] (regK K [1, 4]) (panK K) env H := aw_reg _ _
def law18_GrammarValidMatchesReference_c3 : AC := .seq law18_GrammarValidMatchesReference_c2 .ret
@[simp] theorem law18_GrammarValidMatchesReference_c3_eq : aw PP law18_GrammarValidMatchesReference_c3 K env H = aw PP law18_GrammarValidMatchesReference_c2 (seqK PP .ret K) env H := aw_seq law18_GrammarValidMatchesReference_c2 .ret
def law18_GrammarValidMatchesReference_c4 : AC := .cond (.t 4) law18_GrammarValidMatchesReference_c3 .skip
@[simp] theorem law18_GrammarValidMatchesReference_c4_eq : aw PP law18_GrammarValidMatchesReference_c4 K env H = condQ PP (Opd.ev env (.t 4)) law18_GrammarValidMatchesReference_c3 .skip K env H := aw_cond _ law18_GrammarValidMatchesReference_c3 .skip
def law18_GrammarValidMatchesReference_c5 : AC := .seq law18_GrammarValidMatchesReference_c1 law18_GrammarValidMatchesReference_c4
@[simp] theorem law18_GrammarValidMatchesReference_c5_eq : aw PP law18_GrammarValidMatchesReference_c5 K env H = aw PP law18_GrammarValidMatchesReference_c1 (seqK PP law18_GrammarValidMatchesReference_c4 K) env H := aw_seq law18_GrammarValidMatchesReference_c1 law18_GrammarValidMatchesReference_c4
def law18_GrammarValidMatchesReference_c6_ops : List (AI × List Nat) := [(⟨some 5, none, .ld true 4 (.t 1)⟩, []), (⟨some 6, none, .call (.c (.fn (.func 11) [] [])) [.t 5]⟩, [0]), (⟨some 7, none, .not (.t 6)⟩, [1]), (⟨some 8, none, .mov (.t 7)⟩, [2, 1]), (⟨some 9, some (8, false), .ld true 4 (.t 1)⟩, [3]), (⟨some 10, some (8, false), .call (.c (.fn (.func 12) [] [])) [.t 9]⟩, [4, 3, 3]), (⟨some 11, some (8, false), .ld true 4 (.t 1)⟩, [3]), (⟨some 12, some (8, false), .call (.c (.fn (.func 13) [] [])) [.t 11]⟩, [6, 5, 3]), (⟨some 13, some (8, false), .beq false (.t 10) (.t 12)⟩, [5, 7, 3]), (⟨some 14, none, .pick (.t 8) (.c (.bool true)) (.t 13)⟩, [3, 8]), (⟨some 2, none, .mov (.t 14)⟩, [9, 7, 0, 1, 2, 3, 4, 5, 6, 7, 8, 9])]
def law18_GrammarValidMatchesReference_c6 : AC := .dreg law18_GrammarValidMatchesReference_c6_ops [1, 4, 5, 6, 7, 8, 9, 10, 11, 12, 13, 14]
theorem law18_GrammarValidMatchesReference_c6_ok : lexOK law18_GrammarValidMatchesReference_c6_ops (fun i => [].contains i) = true := by kernel_rfl
theorem law18_GrammarValidMatchesReference_c6_lex (h : awLex PP (fun i => [].contains i) (regK K [1, 4, 5, 6, 7, 8, 9, 10, 11, 12, 13, 14]) (panK K) [(0, ⟨some 5, none, .ld true 4 (.t 1)⟩), (1, ⟨some 6, none, .call (.c (.fn (.func 11) [] [])) [.t 5]⟩), (2, ⟨some 7, none, .not (.t 6)⟩), (3, ⟨some 8, none, .mov (.t 7)⟩), (4, ⟨some 9, some (8, false), .ld true 4 (.t 1)⟩), (5, ⟨some 10, some (8, false), .call (.c (.fn (.func 12) [] [])) [.t 9]⟩), (6, ⟨some 11, some (8, false), .ld true 4 (.t 1)⟩), (7, ⟨some 12, some (8, false), .call (.c (.fn (.func 13) [] [])) [.t 11]⟩), (8, ⟨some 13, some (8, false), .beq false (.t 10) (.t 12)⟩), (9, ⟨some 14, none, .pick (.t 8) (.c (.bool true)) (.t 13)⟩), (10, ⟨some 2, none, .mov (.t 14)⟩)] env H) : aw PP law18_GrammarValidMatchesReference_c6 K env H := aw_dreg_lex _ law18_GrammarValidMatchesReference_c6_ok h
def law18_GrammarValidMatchesReference_c7 : AC := .seq law18_GrammarValidMatchesReference_c6 .ret
@[simp] theorem law18_GrammarValidMatchesReference_c7_eq : aw PP law18_GrammarValidMatchesReference_c7 K env H = aw PP law18_GrammarValidMatchesReference_c6 (seqK PP .ret K) env H := aw_seq law18_GrammarValidMatchesReference_c6 .ret
def law18_GrammarValidMatchesReference_c8 : AC := .seq law18_GrammarValidMatchesReference_c5 law18_GrammarValidMatchesReference_c7
@[simp] theorem law18_GrammarValidMatchesReference_c8_eq : aw PP law18_GrammarValidMatchesReference_c8 K env H = aw PP law18_GrammarValidMatchesReference_c5 (seqK PP law18_GrammarValidMatchesReference_c7 K) env H := aw_seq law18_GrammarValidMatchesReference_c5 law18_GrammarValidMatchesReference_c7
def law18_GrammarValidMatchesReference_c9 : AC := .seq law18_GrammarValidMatchesReference_c0 law18_GrammarValidMatchesReference_c8
@[simp] theorem law18_GrammarValidMatchesReference_c9_eq : aw PP law18_GrammarValidMatchesReference_c9 K env H = aw PP law18_GrammarValidMatchesReference_c0 (seqK PP law18_GrammarValidMatchesReference_c8 K) env H := aw_seq law18_GrammarValidMatchesReference_c0 law18_GrammarValidMatchesReference_c8
def law18_GrammarValidMatchesReference_ac : AC := law18_GrammarValidMatchesReference_c9
@[simp] theorem law18_GrammarValidMatchesReference_ac_eq : aw PP law18_GrammarValidMatchesReference_ac K env H = aw PP law18_GrammarValidMatchesReference_c9 K env H := Eq.trans rfl rfl
def law18_GrammarValidMatchesReference_rs : List ARV := [.tmp 2]
abbrev law18_GrammarValidMatchesReference_id : Nat := 3
theorem law18_GrammarValidMatchesReference_comp : compF PP law18_GrammarValidMatchesReference_kl law18_GrammarValidMatchesReference_ow 1 Tryd.f3 = some (law18_GrammarValidMatchesReference_ac, law18_GrammarValidMatchesReference_rs) := by kernel_rfl
theorem law18_GrammarValidMatchesReference_enter {args : List AV} {H : AHeap} {post : ARes → AHeap → Prop} (ha : args.length = 1) (h : aw PP law18_GrammarValidMatchesReference_ac (retK law18_GrammarValidMatchesReference_rs post) (argEnv 0 args) H) : ACalls PP law18_GrammarValidMatchesReference_id args H post := .enterF Tryd.func3 PP_mix law18_GrammarValidMatchesReference_comp ha h

end Go.Av
