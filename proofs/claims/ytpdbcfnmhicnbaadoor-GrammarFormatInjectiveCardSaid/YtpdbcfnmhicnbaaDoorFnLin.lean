/- Functions of the given program, compiled to the own form by program. -/
import Derived.Test.YtpdbcfnmhicnbaaDoorFnB
set_option linter.unusedVariables false
set_option linter.unusedSimpArgs false
namespace Go.Av
open Go Go.Proofs
variable {K : AK} {env : Env} {H : AHeap}
/-! emendate.emendatelaw18.GrammarFormatInjective -/
def law18_GrammarFormatInjective_kl : Nat → List Nat
  | 0 => [0, 1, 4]
  | 1 => [5]
  | 2 => [2, 3, 6]
  | 3 => [6, 7, 8, 9, 10, 11, 12, 13, 14, 15, 16, 17, 18, 19, 20, 21, 22, 23]
  | 4 => [2, 3, 24]
  | 5 => [2, 3, 24, 25, 26, 27, 28, 29, 30, 31, 32, 33]
  | _ => []
def law18_GrammarFormatInjective_ow : Nat → Nat → Bool := fun _ _ => false
def law18_GrammarFormatInjective_c0 : AC := .reg [⟨some 2, none, .box (.t 0) 4 25⟩, ⟨some 3, none, .box (.t 1) 4 25⟩, ⟨some 4, none, .mov (.c (.bool false))⟩] [0, 1, 4]
@[simp] theorem law18_GrammarFormatInjective_c0_eq : aw PP law18_GrammarFormatInjective_c0 K env H = awOps PP [⟨some 2, none, .box (.t 0) 4 25⟩, ⟨some 3, none, .box (.t 1) 4 25⟩, ⟨some 4, none, .mov (.c (.bool false))⟩] (regK K [0, 1, 4]) (panK K) env H := aw_reg _ _
def law18_GrammarFormatInjective_c1 : AC := .reg [⟨some 5, none, .call (.c (.fn (.func 10) [] [])) []⟩, ⟨some 6, none, .not (.t 5)⟩] [5]
@[simp] theorem law18_GrammarFormatInjective_c1_eq : aw PP law18_GrammarFormatInjective_c1 K env H = awOps PP [⟨some 5, none, .call (.c (.fn (.func 10) [] [])) []⟩, ⟨some 6, none, .not (.t 5)⟩] (regK K [5]) (panK K) env H := aw_reg _ _
def law18_GrammarFormatInjective_c2 : AC := .reg [⟨some 4, none, .mov (.c (.bool false))⟩] [2, 3, 6]
@[simp] theorem law18_GrammarFormatInjective_c2_eq : aw PP law18_GrammarFormatInjective_c2 K env H = awOps PP [⟨some 4, none, .mov (.c (.bool false))⟩] (regK K [2, 3, 6]) (panK K) env H := aw_reg _ _
def law18_GrammarFormatInjective_c3 : AC := .seq law18_GrammarFormatInjective_c2 .ret
@[simp] theorem law18_GrammarFormatInjective_c3_eq : aw PP law18_GrammarFormatInjective_c3 K env H = aw PP law18_GrammarFormatInjective_c2 (seqK PP .ret K) env H := aw_seq law18_GrammarFormatInjective_c2 .ret
def law18_GrammarFormatInjective_c4 : AC := .cond (.t 6) law18_GrammarFormatInjective_c3 .skip
@[simp] theorem law18_GrammarFormatInjective_c4_eq : aw PP law18_GrammarFormatInjective_c4 K env H = condQ PP (Opd.ev env (.t 6)) law18_GrammarFormatInjective_c3 .skip K env H := aw_cond _ law18_GrammarFormatInjective_c3 .skip
def law18_GrammarFormatInjective_c5 : AC := .seq law18_GrammarFormatInjective_c1 law18_GrammarFormatInjective_c4
@[simp] theorem law18_GrammarFormatInjective_c5_eq : aw PP law18_GrammarFormatInjective_c5 K env H = aw PP law18_GrammarFormatInjective_c1 (seqK PP law18_GrammarFormatInjective_c4 K) env H := aw_seq law18_GrammarFormatInjective_c1 law18_GrammarFormatInjective_c4
def law18_GrammarFormatInjective_c6 : AC := .reg [⟨some 7, none, .ld true 4 (.t 2)⟩, ⟨some 8, none, .call (.c (.fn (.func 11) [] [])) [.t 7]⟩, ⟨some 9, none, .not (.t 8)⟩, ⟨some 10, none, .mov (.t 9)⟩, ⟨some 11, some (10, false), .ld true 4 (.t 3)⟩, ⟨some 12, some (10, false), .call (.c (.fn (.func 11) [] [])) [.t 11]⟩, ⟨some 13, some (10, false), .not (.t 12)⟩, ⟨some 14, none, .pick (.t 10) (.c (.bool true)) (.t 13)⟩, ⟨some 15, none, .mov (.t 14)⟩, ⟨some 16, some (15, false), .ld true 4 (.t 2)⟩, ⟨some 17, some (15, false), .call (.c (.fn (.func 13) [] [])) [.t 16]⟩, ⟨some 18, some (15, false), .not (.t 17)⟩, ⟨some 19, none, .pick (.t 15) (.c (.bool true)) (.t 18)⟩, ⟨some 20, none, .mov (.t 19)⟩, ⟨some 21, some (20, false), .ld true 4 (.t 3)⟩, ⟨some 22, some (20, false), .call (.c (.fn (.func 13) [] [])) [.t 21]⟩, ⟨some 23, some (20, false), .not (.t 22)⟩, ⟨some 24, none, .pick (.t 20) (.c (.bool true)) (.t 23)⟩] [6, 7, 8, 9, 10, 11, 12, 13, 14, 15, 16, 17, 18, 19, 20, 21, 22, 23]
@[simp] theorem law18_GrammarFormatInjective_c6_eq : aw PP law18_GrammarFormatInjective_c6 K env H = awOps PP [⟨some 7, none, .ld true 4 (.t 2)⟩, ⟨some 8, none, .call (.c (.fn (.func 11) [] [])) [.t 7]⟩, ⟨some 9, none, .not (.t 8)⟩, ⟨some 10, none, .mov (.t 9)⟩, ⟨some 11, some (10, false), .ld true 4 (.t 3)⟩, ⟨some 12, some (10, false), .call (.c (.fn (.func 11) [] [])) [.t 11]⟩, ⟨some 13, some (10, false), .not (.t 12)⟩, ⟨some 14, none, .pick (.t 10) (.c (.bool true)) (.t 13)⟩, ⟨some 15, none, .mov (.t 14)⟩, ⟨some 16, some (15, false), .ld true 4 (.t 2)⟩, ⟨some 17, some (15, false), .call (.c (.fn (.func 13) [] [])) [.t 16]⟩, ⟨some 18, some (15, false), .not (.t 17)⟩, ⟨some 19, none, .pick (.t 15) (.c (.bool true)) (.t 18)⟩, ⟨some 20, none, .mov (.t 19)⟩, ⟨some 21, some (20, false), .ld true 4 (.t 3)⟩, ⟨some 22, some (20, false), .call (.c (.fn (.func 13) [] [])) [.t 21]⟩, ⟨some 23, some (20, false), .not (.t 22)⟩, ⟨some 24, none, .pick (.t 20) (.c (.bool true)) (.t 23)⟩] (regK K [6, 7, 8, 9, 10, 11, 12, 13, 14, 15, 16, 17, 18, 19, 20, 21, 22, 23]) (panK K) env H := aw_reg _ _
def law18_GrammarFormatInjective_c7 : AC := .reg [⟨some 4, none, .mov (.c (.bool true))⟩] [2, 3, 24]
@[simp] theorem law18_GrammarFormatInjective_c7_eq : aw PP law18_GrammarFormatInjective_c7 K env H = awOps PP [⟨some 4, none, .mov (.c (.bool true))⟩] (regK K [2, 3, 24]) (panK K) env H := aw_reg _ _
def law18_GrammarFormatInjective_c8 : AC := .seq law18_GrammarFormatInjective_c7 .ret
@[simp] theorem law18_GrammarFormatInjective_c8_eq : aw PP law18_GrammarFormatInjective_c8 K env H = aw PP law18_GrammarFormatInjective_c7 (seqK PP .ret K) env H := aw_seq law18_GrammarFormatInjective_c7 .ret
def law18_GrammarFormatInjective_c9 : AC := .cond (.t 24) law18_GrammarFormatInjective_c8 .skip
@[simp] theorem law18_GrammarFormatInjective_c9_eq : aw PP law18_GrammarFormatInjective_c9 K env H = condQ PP (Opd.ev env (.t 24)) law18_GrammarFormatInjective_c8 .skip K env H := aw_cond _ law18_GrammarFormatInjective_c8 .skip
def law18_GrammarFormatInjective_c10 : AC := .seq law18_GrammarFormatInjective_c6 law18_GrammarFormatInjective_c9
@[simp] theorem law18_GrammarFormatInjective_c10_eq : aw PP law18_GrammarFormatInjective_c10 K env H = aw PP law18_GrammarFormatInjective_c6 (seqK PP law18_GrammarFormatInjective_c9 K) env H := aw_seq law18_GrammarFormatInjective_c6 law18_GrammarFormatInjective_c9
def law18_GrammarFormatInjective_c11_ops : List (AI × List Nat) := [(⟨some 25, none, .ld true 4 (.t 2)⟩, []), (⟨some 26, none, .call (.c (.fn (.func 16) [] [])) [.t 25]⟩, [0]), (⟨some 27, none, .ld true 4 (.t 3)⟩, []), (⟨some 28, none, .call (.c (.fn (.func 16) [] [])) [.t 27]⟩, [2, 1]), (⟨some 29, none, .bin (.eql) (.t 26) (.t 28)⟩, [1, 3]), (⟨some 30, none, .ld true 4 (.t 2)⟩, []), (⟨some 31, none, .ld true 4 (.t 3)⟩, []), (⟨some 32, none, .call (.c (.fn (.func 14) [] [])) [.t 30, .t 31]⟩, [5, 6, 3]), (⟨some 33, none, .beq false (.t 29) (.t 32)⟩, [4, 7]), (⟨some 4, none, .mov (.t 33)⟩, [8, 7, 0, 1, 2, 3, 4, 5, 6, 7, 8])]
def law18_GrammarFormatInjective_c11 : AC := .dreg law18_GrammarFormatInjective_c11_ops [2, 3, 24, 25, 26, 27, 28, 29, 30, 31, 32, 33]
theorem law18_GrammarFormatInjective_c11_ok : lexOK law18_GrammarFormatInjective_c11_ops (fun i => [].contains i) = true := by kernel_rfl
theorem law18_GrammarFormatInjective_c11_lex (h : awLex PP (fun i => [].contains i) (regK K [2, 3, 24, 25, 26, 27, 28, 29, 30, 31, 32, 33]) (panK K) [(0, ⟨some 25, none, .ld true 4 (.t 2)⟩), (1, ⟨some 26, none, .call (.c (.fn (.func 16) [] [])) [.t 25]⟩), (2, ⟨some 27, none, .ld true 4 (.t 3)⟩), (3, ⟨some 28, none, .call (.c (.fn (.func 16) [] [])) [.t 27]⟩), (4, ⟨some 29, none, .bin (.eql) (.t 26) (.t 28)⟩), (5, ⟨some 30, none, .ld true 4 (.t 2)⟩), (6, ⟨some 31, none, .ld true 4 (.t 3)⟩), (7, ⟨some 32, none, .call (.c (.fn (.func 14) [] [])) [.t 30, .t 31]⟩), (8, ⟨some 33, none, .beq false (.t 29) (.t 32)⟩), (9, ⟨some 4, none, .mov (.t 33)⟩)] env H) : aw PP law18_GrammarFormatInjective_c11 K env H := aw_dreg_lex _ law18_GrammarFormatInjective_c11_ok h
def law18_GrammarFormatInjective_c12 : AC := .seq law18_GrammarFormatInjective_c11 .ret
@[simp] theorem law18_GrammarFormatInjective_c12_eq : aw PP law18_GrammarFormatInjective_c12 K env H = aw PP law18_GrammarFormatInjective_c11 (seqK PP .ret K) env H := aw_seq law18_GrammarFormatInjective_c11 .ret
def law18_GrammarFormatInjective_c13 : AC := .seq law18_GrammarFormatInjective_c10 law18_GrammarFormatInjective_c12
@[simp] theorem law18_GrammarFormatInjective_c13_eq : aw PP law18_GrammarFormatInjective_c13 K env H = aw PP law18_GrammarFormatInjective_c10 (seqK PP law18_GrammarFormatInjective_c12 K) env H := aw_seq law18_GrammarFormatInjective_c10 law18_GrammarFormatInjective_c12
def law18_GrammarFormatInjective_c14 : AC := .seq law18_GrammarFormatInjective_c5 law18_GrammarFormatInjective_c13
@[simp] theorem law18_GrammarFormatInjective_c14_eq : aw PP law18_GrammarFormatInjective_c14 K env H = aw PP law18_GrammarFormatInjective_c5 (seqK PP law18_GrammarFormatInjective_c13 K) env H := aw_seq law18_GrammarFormatInjective_c5 law18_GrammarFormatInjective_c13
def law18_GrammarFormatInjective_c15 : AC := .seq law18_GrammarFormatInjective_c0 law18_GrammarFormatInjective_c14
@[simp] theorem law18_GrammarFormatInjective_c15_eq : aw PP law18_GrammarFormatInjective_c15 K env H = aw PP law18_GrammarFormatInjective_c0 (seqK PP law18_GrammarFormatInjective_c14 K) env H := aw_seq law18_GrammarFormatInjective_c0 law18_GrammarFormatInjective_c14
def law18_GrammarFormatInjective_ac : AC := law18_GrammarFormatInjective_c15
@[simp] theorem law18_GrammarFormatInjective_ac_eq : aw PP law18_GrammarFormatInjective_ac K env H = aw PP law18_GrammarFormatInjective_c15 K env H := Eq.trans rfl rfl
def law18_GrammarFormatInjective_rs : List ARV := [.tmp 4]
abbrev law18_GrammarFormatInjective_id : Nat := 6
theorem law18_GrammarFormatInjective_comp : compF PP law18_GrammarFormatInjective_kl law18_GrammarFormatInjective_ow 2 Tryd.f6 = some (law18_GrammarFormatInjective_ac, law18_GrammarFormatInjective_rs) := by kernel_rfl
theorem law18_GrammarFormatInjective_enter {args : List AV} {H : AHeap} {post : ARes → AHeap → Prop} (ha : args.length = 2) (h : aw PP law18_GrammarFormatInjective_ac (retK law18_GrammarFormatInjective_rs post) (argEnv 0 args) H) : ACalls PP law18_GrammarFormatInjective_id args H post := .enterF Tryd.func6 PP_mix law18_GrammarFormatInjective_comp ha h

end Go.Av
