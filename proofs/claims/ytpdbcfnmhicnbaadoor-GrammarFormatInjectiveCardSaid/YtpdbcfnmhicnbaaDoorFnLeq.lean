/- Functions of the given program, compiled to the own form by program. -/
import Derived.Test.YtpdbcfnmhicnbaaDoorFnB
set_option linter.unusedVariables false
set_option linter.unusedSimpArgs false
namespace Go.Av
open Go Go.Proofs
variable {K : AK} {env : Env} {H : AHeap}
/-! emendate.emendatelaw18.GrammarEqualMatchesReference -/
def law18_GrammarEqualMatchesReference_kl : Nat → List Nat
  | 0 => [0, 1, 4]
  | 1 => [5]
  | 2 => [2, 3, 6]
  | 3 => [6, 7, 8, 9, 10, 11, 12, 13]
  | 4 => [2, 3, 14]
  | 5 => [2, 3, 14, 15, 16, 17, 18, 19, 20, 21, 22, 23, 24, 25, 26]
  | _ => []
def law18_GrammarEqualMatchesReference_ow : Nat → Nat → Bool := fun _ _ => false
def law18_GrammarEqualMatchesReference_c0 : AC := .reg [⟨some 2, none, .box (.t 0) 4 25⟩, ⟨some 3, none, .box (.t 1) 4 25⟩, ⟨some 4, none, .mov (.c (.bool false))⟩] [0, 1, 4]
@[simp] theorem law18_GrammarEqualMatchesReference_c0_eq : aw PP law18_GrammarEqualMatchesReference_c0 K env H = awOps PP [⟨some 2, none, .box (.t 0) 4 25⟩, ⟨some 3, none, .box (.t 1) 4 25⟩, ⟨some 4, none, .mov (.c (.bool false))⟩] (regK K [0, 1, 4]) (panK K) env H := aw_reg _ _
def law18_GrammarEqualMatchesReference_c1 : AC := .reg [⟨some 5, none, .call (.c (.fn (.func 10) [] [])) []⟩, ⟨some 6, none, .not (.t 5)⟩] [5]
@[simp] theorem law18_GrammarEqualMatchesReference_c1_eq : aw PP law18_GrammarEqualMatchesReference_c1 K env H = awOps PP [⟨some 5, none, .call (.c (.fn (.func 10) [] [])) []⟩, ⟨some 6, none, .not (.t 5)⟩] (regK K [5]) (panK K) env H := aw_reg _ _
def law18_GrammarEqualMatchesReference_c2 : AC := .reg [⟨some 4, none, .mov (.c (.bool false))⟩] [2, 3, 6]
@[simp] theorem law18_GrammarEqualMatchesReference_c2_eq : aw PP law18_GrammarEqualMatchesReference_c2 K env H = awOps PP [⟨some 4, none, .mov (.c (.bool false))⟩] (regK K [2, 3, 6]) (panK K) env H := aw_reg _ _
def law18_GrammarEqualMatchesReference_c3 : AC := .seq law18_GrammarEqualMatchesReference_c2 .ret
@[simp] theorem law18_GrammarEqualMatchesReference_c3_eq : aw PP law18_GrammarEqualMatchesReference_c3 K env H = aw PP law18_GrammarEqualMatchesReference_c2 (seqK PP .ret K) env H := aw_seq law18_GrammarEqualMatchesReference_c2 .ret
def law18_GrammarEqualMatchesReference_c4 : AC := .cond (.t 6) law18_GrammarEqualMatchesReference_c3 .skip
@[simp] theorem law18_GrammarEqualMatchesReference_c4_eq : aw PP law18_GrammarEqualMatchesReference_c4 K env H = condQ PP (Opd.ev env (.t 6)) law18_GrammarEqualMatchesReference_c3 .skip K env H := aw_cond _ law18_GrammarEqualMatchesReference_c3 .skip
def law18_GrammarEqualMatchesReference_c5 : AC := .seq law18_GrammarEqualMatchesReference_c1 law18_GrammarEqualMatchesReference_c4
@[simp] theorem law18_GrammarEqualMatchesReference_c5_eq : aw PP law18_GrammarEqualMatchesReference_c5 K env H = aw PP law18_GrammarEqualMatchesReference_c1 (seqK PP law18_GrammarEqualMatchesReference_c4 K) env H := aw_seq law18_GrammarEqualMatchesReference_c1 law18_GrammarEqualMatchesReference_c4
def law18_GrammarEqualMatchesReference_c6 : AC := .reg [⟨some 7, none, .ld true 4 (.t 2)⟩, ⟨some 8, none, .call (.c (.fn (.func 11) [] [])) [.t 7]⟩, ⟨some 9, none, .not (.t 8)⟩, ⟨some 10, none, .mov (.t 9)⟩, ⟨some 11, some (10, false), .ld true 4 (.t 3)⟩, ⟨some 12, some (10, false), .call (.c (.fn (.func 11) [] [])) [.t 11]⟩, ⟨some 13, some (10, false), .not (.t 12)⟩, ⟨some 14, none, .pick (.t 10) (.c (.bool true)) (.t 13)⟩] [6, 7, 8, 9, 10, 11, 12, 13]
@[simp] theorem law18_GrammarEqualMatchesReference_c6_eq : aw PP law18_GrammarEqualMatchesReference_c6 K env H = awOps PP [⟨some 7, none, .ld true 4 (.t 2)⟩, ⟨some 8, none, .call (.c (.fn (.func 11) [] [])) [.t 7]⟩, ⟨some 9, none, .not (.t 8)⟩, ⟨some 10, none, .mov (.t 9)⟩, ⟨some 11, some (10, false), .ld true 4 (.t 3)⟩, ⟨some 12, some (10, false), .call (.c (.fn (.func 11) [] [])) [.t 11]⟩, ⟨some 13, some (10, false), .not (.t 12)⟩, ⟨some 14, none, .pick (.t 10) (.c (.bool true)) (.t 13)⟩] (regK K [6, 7, 8, 9, 10, 11, 12, 13]) (panK K) env H := aw_reg _ _
def law18_GrammarEqualMatchesReference_c7 : AC := .reg [⟨some 4, none, .mov (.c (.bool true))⟩] [2, 3, 14]
@[simp] theorem law18_GrammarEqualMatchesReference_c7_eq : aw PP law18_GrammarEqualMatchesReference_c7 K env H = awOps PP [⟨some 4, none, .mov (.c (.bool true))⟩] (regK K [2, 3, 14]) (panK K) env H := aw_reg _ _
def law18_GrammarEqualMatchesReference_c8 : AC := .seq law18_GrammarEqualMatchesReference_c7 .ret
@[simp] theorem law18_GrammarEqualMatchesReference_c8_eq : aw PP law18_GrammarEqualMatchesReference_c8 K env H = aw PP law18_GrammarEqualMatchesReference_c7 (seqK PP .ret K) env H := aw_seq law18_GrammarEqualMatchesReference_c7 .ret
def law18_GrammarEqualMatchesReference_c9 : AC := .cond (.t 14) law18_GrammarEqualMatchesReference_c8 .skip
@[simp] theorem law18_GrammarEqualMatchesReference_c9_eq : aw PP law18_GrammarEqualMatchesReference_c9 K env H = condQ PP (Opd.ev env (.t 14)) law18_GrammarEqualMatchesReference_c8 .skip K env H := aw_cond _ law18_GrammarEqualMatchesReference_c8 .skip
def law18_GrammarEqualMatchesReference_c10 : AC := .seq law18_GrammarEqualMatchesReference_c6 law18_GrammarEqualMatchesReference_c9
@[simp] theorem law18_GrammarEqualMatchesReference_c10_eq : aw PP law18_GrammarEqualMatchesReference_c10 K env H = aw PP law18_GrammarEqualMatchesReference_c6 (seqK PP law18_GrammarEqualMatchesReference_c9 K) env H := aw_seq law18_GrammarEqualMatchesReference_c6 law18_GrammarEqualMatchesReference_c9
def law18_GrammarEqualMatchesReference_c11_ops : List (AI × List Nat) := [(⟨some 15, none, .ld true 4 (.t 2)⟩, []), (⟨some 16, none, .ld true 4 (.t 3)⟩, []), (⟨some 17, none, .call (.c (.fn (.func 14) [] [])) [.t 15, .t 16]⟩, [0, 1]), (⟨some 18, none, .ld true 4 (.t 2)⟩, []), (⟨some 19, none, .ld true 4 (.t 3)⟩, []), (⟨some 20, none, .call (.c (.fn (.func 15) [] [])) [.t 18, .t 19]⟩, [3, 4, 2]), (⟨some 21, none, .beq false (.t 17) (.t 20)⟩, [2, 5]), (⟨some 22, none, .mov (.t 21)⟩, [6, 5]), (⟨some 23, some (22, true), .ld true 4 (.t 2)⟩, [7]), (⟨some 24, some (22, true), .ld true 4 (.t 2)⟩, [7]), (⟨some 25, some (22, true), .call (.c (.fn (.func 14) [] [])) [.t 23, .t 24]⟩, [8, 9, 7, 7]), (⟨some 26, none, .pick (.t 22) (.t 25) (.c (.bool false))⟩, [7, 10]), (⟨some 4, none, .mov (.t 26)⟩, [11, 10, 0, 1, 2, 3, 4, 5, 6, 7, 8, 9, 10, 11])]
def law18_GrammarEqualMatchesReference_c11 : AC := .dreg law18_GrammarEqualMatchesReference_c11_ops [2, 3, 14, 15, 16, 17, 18, 19, 20, 21, 22, 23, 24, 25, 26]
theorem law18_GrammarEqualMatchesReference_c11_ok : lexOK law18_GrammarEqualMatchesReference_c11_ops (fun i => [].contains i) = true := by kernel_rfl
theorem law18_GrammarEqualMatchesReference_c11_lex (h : awLex PP (fun i => [].contains i) (regK K [2, 3, 14, 15, 16, 17, 18, 19, 20, 21, 22, 23, 24, 25, 26]) (panK K) [(0, ⟨some 15, none, .ld true 4 (.t 2)⟩), (1, ⟨some 16, none, .ld true 4 (.t 3)⟩), (2, ⟨some 17, none, .call (.c (.fn (.func 14) [] [])) [.t 15, .t 16]⟩), (3, ⟨some 18, none, .ld true 4 (.t 2)⟩), (4, ⟨some 19, none, .ld true 4 (.t 3)⟩), (5, ⟨some 20, none, .call (.c (.fn (.func 15) [] [])) [.t 18, .t 19]⟩), (6, ⟨some 21, none, .beq false (.t 17) (.t 20)⟩), (7, ⟨some 22, none, .mov (.t 21)⟩), (8, ⟨some 23, some (22, true), .ld true 4 (.t 2)⟩), (9, ⟨some 24, some (22, true), .ld true 4 (.t 2)⟩), (10, ⟨some 25, some (22, true), .call (.c (.fn (.func 14) [] [])) [.t 23, .t 24]⟩), (11, ⟨some 26, none, .pick (.t 22) (.t 25) (.c (.bool false))⟩), (12, ⟨some 4, none, .mov (.t 26)⟩)] env H) : aw PP law18_GrammarEqualMatchesReference_c11 K env H := aw_dreg_lex _ law18_GrammarEqualMatchesReference_c11_ok h
def law18_GrammarEqualMatchesReference_c12 : AC := .seq law18_GrammarEqualMatchesReference_c11 .ret
@[simp] theorem law18_GrammarEqualMatchesReference_c12_eq : aw PP law18_GrammarEqualMatchesReference_c12 K env H = aw PP law18_GrammarEqualMatchesReference_c11 (seqK PP .ret K) env H := aw_seq law18_GrammarEqualMatchesReference_c11 .ret
def law18_GrammarEqualMatchesReference_c13 : AC := .seq law18_GrammarEqualMatchesReference_c10 law18_GrammarEqualMatchesReference_c12
@[simp] theorem law18_GrammarEqualMatchesReference_c13_eq : aw PP law18_GrammarEqualMatchesReference_c13 K env H = aw PP law18_GrammarEqualMatchesReference_c10 (seqK PP law18_GrammarEqualMatchesReference_c12 K) env H := aw_seq law18_GrammarEqualMatchesReference_c10 law18_GrammarEqualMatchesReference_c12
def law18_GrammarEqualMatchesReference_c14 : AC := .seq law18_GrammarEqualMatchesReference_c5 law18_GrammarEqualMatchesReference_c13
@[simp] theorem law18_GrammarEqualMatchesReference_c14_eq : aw PP law18_GrammarEqualMatchesReference_c14 K env H = aw PP law18_GrammarEqualMatchesReference_c5 (seqK PP law18_GrammarEqualMatchesReference_c13 K) env H := aw_seq law18_GrammarEqualMatchesReference_c5 law18_GrammarEqualMatchesReference_c13
def law18_GrammarEqualMatchesReference_c15 : AC := .seq law18_GrammarEqualMatchesReference_c0 law18_GrammarEqualMatchesReference_c14
@[simp] theorem law18_GrammarEqualMatchesReference_c15_eq : aw PP law18_GrammarEqualMatchesReference_c15 K env H = aw PP law18_GrammarEqualMatchesReference_c0 (seqK PP law18_GrammarEqualMatchesReference_c14 K) env H := aw_seq law18_GrammarEqualMatchesReference_c0 law18_GrammarEqualMatchesReference_c14
def law18_GrammarEqualMatchesReference_ac : AC := law18_GrammarEqualMatchesReference_c15
@[simp] theorem law18_GrammarEqualMatchesReference_ac_eq : aw PP law18_GrammarEqualMatchesReference_ac K env H = aw PP law18_GrammarEqualMatchesReference_c15 K env H := Eq.trans rfl rfl
def law18_GrammarEqualMatchesReference_rs : List ARV := [.tmp 4]
abbrev law18_GrammarEqualMatchesReference_id : Nat := 4
theorem law18_GrammarEqualMatchesReference_comp : compF PP law18_GrammarEqualMatchesReference_kl law18_GrammarEqualMatchesReference_ow 2 Tryd.f4 = some (law18_GrammarEqualMatchesReference_ac, law18_GrammarEqualMatchesReference_rs) := by kernel_rfl
theorem law18_GrammarEqualMatchesReference_enter {args : List AV} {H : AHeap} {post : ARes → AHeap → Prop} (ha : args.length = 2) (h : aw PP law18_GrammarEqualMatchesReference_ac (retK law18_GrammarEqualMatchesReference_rs post) (argEnv 0 args) H) : ACalls PP law18_GrammarEqualMatchesReference_id args H post := .enterF Tryd.func4 PP_mix law18_GrammarEqualMatchesReference_comp ha h

end Go.Av
