/- Functions of the given program, compiled to the own form by program. -/
import Derived.Test.YtpdbcfnmhicnbaaDoorFnB
set_option linter.unusedVariables false
set_option linter.unusedSimpArgs false
namespace Go.Av
open Go Go.Proofs
variable {K : AK} {env : Env} {H : AHeap}
/-! emendate.emendatelaw18.GrammarRemoveRule -/
def law18_GrammarRemoveRule_kl : Nat → List Nat
  | 0 => [0, 4]
  | 1 => [8]
  | 2 => [1, 2, 9]
  | 3 => [9, 10, 11, 12, 13, 14, 15, 16, 17, 18, 19, 20, 21, 22]
  | 4 => [1, 2, 23]
  | 5 => [1, 23, 24, 25, 26, 27, 28, 29]
  | 6 => [30]
  | 7 => [31]
  | 9 => [32, 33, 34, 35]
  | 10 => [37, 38, 41]
  | 11 => [36, 39, 40]
  | 12 => [41, 42, 43, 44, 45, 46, 47, 48, 49, 50, 51]
  | 13 => [2, 5, 6, 7, 36, 52, 53, 54, 55, 56, 57, 58, 59]
  | _ => []
def law18_GrammarRemoveRule_ow : Nat → Nat → Bool := fun _ _ => false
def law18_GrammarRemoveRule_c0 : AC := .reg [⟨some 2, none, .box (.t 0) 4 25⟩, ⟨some 4, none, .mov (.c (.bool false))⟩] [0, 4]
@[simp] theorem law18_GrammarRemoveRule_c0_eq : aw PP law18_GrammarRemoveRule_c0 K env H = awOps PP [⟨some 2, none, .box (.t 0) 4 25⟩, ⟨some 4, none, .mov (.c (.bool false))⟩] (regK K [0, 4]) (panK K) env H := aw_reg _ _
def law18_GrammarRemoveRule_c1 : AC := .reg [⟨some 8, none, .call (.c (.fn (.func 10) [] [])) []⟩, ⟨some 9, none, .not (.t 8)⟩] [8]
@[simp] theorem law18_GrammarRemoveRule_c1_eq : aw PP law18_GrammarRemoveRule_c1 K env H = awOps PP [⟨some 8, none, .call (.c (.fn (.func 10) [] [])) []⟩, ⟨some 9, none, .not (.t 8)⟩] (regK K [8]) (panK K) env H := aw_reg _ _
def law18_GrammarRemoveRule_c2 : AC := .reg [⟨some 4, none, .mov (.c (.bool false))⟩] [1, 2, 9]
@[simp] theorem law18_GrammarRemoveRule_c2_eq : aw PP law18_GrammarRemoveRule_c2 K env H = awOps PP [⟨some 4, none, .mov (.c (.bool false))⟩] (regK K [1, 2, 9]) (panK K) env H := aw_reg _ _
def law18_GrammarRemoveRule_c3 : AC := .seq law18_GrammarRemoveRule_c2 .ret
@[simp] theorem law18_GrammarRemoveRule_c3_eq : aw PP law18_GrammarRemoveRule_c3 K env H = aw PP law18_GrammarRemoveRule_c2 (seqK PP .ret K) env H := aw_seq law18_GrammarRemoveRule_c2 .ret
def law18_GrammarRemoveRule_c4 : AC := .cond (.t 9) law18_GrammarRemoveRule_c3 .skip
@[simp] theorem law18_GrammarRemoveRule_c4_eq : aw PP law18_GrammarRemoveRule_c4 K env H = condQ PP (Opd.ev env (.t 9)) law18_GrammarRemoveRule_c3 .skip K env H := aw_cond _ law18_GrammarRemoveRule_c3 .skip
def law18_GrammarRemoveRule_c5 : AC := .seq law18_GrammarRemoveRule_c1 law18_GrammarRemoveRule_c4
@[simp] theorem law18_GrammarRemoveRule_c5_eq : aw PP law18_GrammarRemoveRule_c5 K env H = aw PP law18_GrammarRemoveRule_c1 (seqK PP law18_GrammarRemoveRule_c4 K) env H := aw_seq law18_GrammarRemoveRule_c1 law18_GrammarRemoveRule_c4
def law18_GrammarRemoveRule_c6 : AC := .reg [⟨some 10, none, .ld true 4 (.t 2)⟩, ⟨some 11, none, .call (.c (.fn (.func 11) [] [])) [.t 10]⟩, ⟨some 12, none, .not (.t 11)⟩, ⟨some 13, none, .mov (.t 12)⟩, ⟨some 14, some (13, false), .ld true 4 (.t 2)⟩, ⟨some 15, some (13, false), .call (.c (.fn (.func 13) [] [])) [.t 14]⟩, ⟨some 16, some (13, false), .not (.t 15)⟩, ⟨some 17, none, .pick (.t 13) (.c (.bool true)) (.t 16)⟩, ⟨some 18, none, .mov (.t 17)⟩, ⟨some 19, some (18, false), .fa 3 3 (.t 2)⟩, ⟨some 20, some (18, false), .ld false 1 (.t 19)⟩, ⟨some 21, some (18, false), .lenl (.t 20)⟩, ⟨some 22, some (18, false), .bin (.lss) (.t 21) (.c (.int (.i64) 2))⟩, ⟨some 23, none, .pick (.t 18) (.c (.bool true)) (.t 22)⟩] [9, 10, 11, 12, 13, 14, 15, 16, 17, 18, 19, 20, 21, 22]
@[simp] theorem law18_GrammarRemoveRule_c6_eq : aw PP law18_GrammarRemoveRule_c6 K env H = awOps PP [⟨some 10, none, .ld true 4 (.t 2)⟩, ⟨some 11, none, .call (.c (.fn (.func 11) [] [])) [.t 10]⟩, ⟨some 12, none, .not (.t 11)⟩, ⟨some 13, none, .mov (.t 12)⟩, ⟨some 14, some (13, false), .ld true 4 (.t 2)⟩, ⟨some 15, some (13, false), .call (.c (.fn (.func 13) [] [])) [.t 14]⟩, ⟨some 16, some (13, false), .not (.t 15)⟩, ⟨some 17, none, .pick (.t 13) (.c (.bool true)) (.t 16)⟩, ⟨some 18, none, .mov (.t 17)⟩, ⟨some 19, some (18, false), .fa 3 3 (.t 2)⟩, ⟨some 20, some (18, false), .ld false 1 (.t 19)⟩, ⟨some 21, some (18, false), .lenl (.t 20)⟩, ⟨some 22, some (18, false), .bin (.lss) (.t 21) (.c (.int (.i64) 2))⟩, ⟨some 23, none, .pick (.t 18) (.c (.bool true)) (.t 22)⟩] (regK K [9, 10, 11, 12, 13, 14, 15, 16, 17, 18, 19, 20, 21, 22]) (panK K) env H := aw_reg _ _
def law18_GrammarRemoveRule_c7 : AC := .reg [⟨some 4, none, .mov (.c (.bool true))⟩] [1, 2, 23]
@[simp] theorem law18_GrammarRemoveRule_c7_eq : aw PP law18_GrammarRemoveRule_c7 K env H = awOps PP [⟨some 4, none, .mov (.c (.bool true))⟩] (regK K [1, 2, 23]) (panK K) env H := aw_reg _ _
def law18_GrammarRemoveRule_c8 : AC := .seq law18_GrammarRemoveRule_c7 .ret
@[simp] theorem law18_GrammarRemoveRule_c8_eq : aw PP law18_GrammarRemoveRule_c8 K env H = aw PP law18_GrammarRemoveRule_c7 (seqK PP .ret K) env H := aw_seq law18_GrammarRemoveRule_c7 .ret
def law18_GrammarRemoveRule_c9 : AC := .cond (.t 23) law18_GrammarRemoveRule_c8 .skip
@[simp] theorem law18_GrammarRemoveRule_c9_eq : aw PP law18_GrammarRemoveRule_c9 K env H = condQ PP (Opd.ev env (.t 23)) law18_GrammarRemoveRule_c8 .skip K env H := aw_cond _ law18_GrammarRemoveRule_c8 .skip
def law18_GrammarRemoveRule_c10 : AC := .seq law18_GrammarRemoveRule_c6 law18_GrammarRemoveRule_c9
@[simp] theorem law18_GrammarRemoveRule_c10_eq : aw PP law18_GrammarRemoveRule_c10 K env H = aw PP law18_GrammarRemoveRule_c6 (seqK PP law18_GrammarRemoveRule_c9 K) env H := aw_seq law18_GrammarRemoveRule_c6 law18_GrammarRemoveRule_c9
def law18_GrammarRemoveRule_c11 : AC := .reg [⟨some 24, none, .mov (.t 1)⟩, ⟨some 25, none, .conv (.i64) (.t 24)⟩, ⟨some 26, none, .fa 3 3 (.t 2)⟩, ⟨some 27, none, .ld false 1 (.t 26)⟩, ⟨some 28, none, .lenl (.t 27)⟩, ⟨some 29, none, .bin (.rem) (.t 25) (.t 28)⟩, ⟨some 5, none, .mov (.t 29)⟩] [1, 23, 24, 25, 26, 27, 28, 29]
@[simp] theorem law18_GrammarRemoveRule_c11_eq : aw PP law18_GrammarRemoveRule_c11 K env H = awOps PP [⟨some 24, none, .mov (.t 1)⟩, ⟨some 25, none, .conv (.i64) (.t 24)⟩, ⟨some 26, none, .fa 3 3 (.t 2)⟩, ⟨some 27, none, .ld false 1 (.t 26)⟩, ⟨some 28, none, .lenl (.t 27)⟩, ⟨some 29, none, .bin (.rem) (.t 25) (.t 28)⟩, ⟨some 5, none, .mov (.t 29)⟩] (regK K [1, 23, 24, 25, 26, 27, 28, 29]) (panK K) env H := aw_reg _ _
def law18_GrammarRemoveRule_c12 : AC := .reg [⟨some 30, none, .ld true 4 (.t 2)⟩, ⟨some 6, none, .alloc (.struct [.nils, .nils, .int (.i64) 0, .nils]) 25⟩, ⟨none, none, .st 4 (.t 6) (.t 30)⟩] [30]
@[simp] theorem law18_GrammarRemoveRule_c12_eq : aw PP law18_GrammarRemoveRule_c12 K env H = awOps PP [⟨some 30, none, .ld true 4 (.t 2)⟩, ⟨some 6, none, .alloc (.struct [.nils, .nils, .int (.i64) 0, .nils]) 25⟩, ⟨none, none, .st 4 (.t 6) (.t 30)⟩] (regK K [30]) (panK K) env H := aw_reg _ _
def law18_GrammarRemoveRule_c13 : AC := .reg [⟨some 31, none, .fa 3 3 (.t 6)⟩, ⟨none, none, .st 1 (.t 31) (.c (.nils))⟩] [31]
@[simp] theorem law18_GrammarRemoveRule_c13_eq : aw PP law18_GrammarRemoveRule_c13 K env H = awOps PP [⟨some 31, none, .fa 3 3 (.t 6)⟩, ⟨none, none, .st 1 (.t 31) (.c (.nils))⟩] (regK K [31]) (panK K) env H := aw_reg _ _
def law18_GrammarRemoveRule_c14 : AC := .reg [⟨some 7, none, .mov (.c (.int (.i64) 0))⟩] []
@[simp] theorem law18_GrammarRemoveRule_c14_eq : aw PP law18_GrammarRemoveRule_c14 K env H = awOps PP [⟨some 7, none, .mov (.c (.int (.i64) 0))⟩] (regK K []) (panK K) env H := aw_reg _ _
def law18_GrammarRemoveRule_c15 : AC := .reg [⟨some 32, none, .mov (.t 7)⟩, ⟨some 33, none, .fa 3 3 (.t 2)⟩, ⟨some 34, none, .ld false 1 (.t 33)⟩, ⟨some 35, none, .lenl (.t 34)⟩, ⟨some 36, none, .bin (.lss) (.t 32) (.t 35)⟩] [32, 33, 34, 35]
@[simp] theorem law18_GrammarRemoveRule_c15_eq : aw PP law18_GrammarRemoveRule_c15 K env H = awOps PP [⟨some 32, none, .mov (.t 7)⟩, ⟨some 33, none, .fa 3 3 (.t 2)⟩, ⟨some 34, none, .ld false 1 (.t 33)⟩, ⟨some 35, none, .lenl (.t 34)⟩, ⟨some 36, none, .bin (.lss) (.t 32) (.t 35)⟩] (regK K [32, 33, 34, 35]) (panK K) env H := aw_reg _ _
def law18_GrammarRemoveRule_c16 : AC := .cond (.t 36) .skip (.exit 0)
@[simp] theorem law18_GrammarRemoveRule_c16_eq : aw PP law18_GrammarRemoveRule_c16 K env H = condQ PP (Opd.ev env (.t 36)) .skip (.exit 0) K env H := aw_cond _ .skip (.exit 0)
def law18_GrammarRemoveRule_c17 : AC := .seq law18_GrammarRemoveRule_c15 law18_GrammarRemoveRule_c16
@[simp] theorem law18_GrammarRemoveRule_c17_eq : aw PP law18_GrammarRemoveRule_c17 K env H = aw PP law18_GrammarRemoveRule_c15 (seqK PP law18_GrammarRemoveRule_c16 K) env H := aw_seq law18_GrammarRemoveRule_c15 law18_GrammarRemoveRule_c16
def law18_GrammarRemoveRule_c18 : AC := .reg [⟨some 39, none, .mov (.t 7)⟩, ⟨some 40, none, .mov (.t 5)⟩, ⟨some 41, none, .bin (.neq) (.t 39) (.t 40)⟩] [36, 39, 40]
@[simp] theorem law18_GrammarRemoveRule_c18_eq : aw PP law18_GrammarRemoveRule_c18 K env H = awOps PP [⟨some 39, none, .mov (.t 7)⟩, ⟨some 40, none, .mov (.t 5)⟩, ⟨some 41, none, .bin (.neq) (.t 39) (.t 40)⟩] (regK K [36, 39, 40]) (panK K) env H := aw_reg _ _
def law18_GrammarRemoveRule_c19_ops : List (AI × List Nat) := [(⟨some 42, none, .fa 3 3 (.t 6)⟩, []), (⟨some 43, none, .ld false 1 (.t 42)⟩, [0]), (⟨some 44, none, .fa 3 3 (.t 2)⟩, []), (⟨some 45, none, .ld false 1 (.t 44)⟩, [2]), (⟨some 46, none, .mov (.t 7)⟩, []), (⟨some 47, none, .ixa 3 (.t 45) (.t 46)⟩, [3, 4]), (⟨some 48, none, .ld true 3 (.t 47)⟩, [5]), (⟨some 49, none, .bsl false 36 3 1 (.struct [.int (.i64) 0, .nils, .int (.i64) 0]) [(0, .t 48)]⟩, [6]), (⟨some 50, none, .app 36 3 40 (.t 43) (.t 49)⟩, [1, 7]), (⟨some 51, none, .fa 3 3 (.t 6)⟩, [0, 1, 2, 3, 4, 5, 6, 7, 8]), (⟨none, none, .st 1 (.t 51) (.t 50)⟩, [9, 8, 8, 0, 1, 2, 3, 4, 5, 6, 7, 8])]
def law18_GrammarRemoveRule_c19 : AC := .dreg law18_GrammarRemoveRule_c19_ops [41, 42, 43, 44, 45, 46, 47, 48, 49, 50, 51]
theorem law18_GrammarRemoveRule_c19_ok : lexOK law18_GrammarRemoveRule_c19_ops (fun i => [8, 10].contains i) = true := by kernel_rfl
theorem law18_GrammarRemoveRule_c19_lex (h : awLex PP (fun i => [8, 10].contains i) (regK K [41, 42, 43, 44, 45, 46, 47, 48, 49, 50, 51]) (panK K) [(0, ⟨some 42, none, .fa 3 3 (.t 6)⟩), (1, ⟨some 43, none, .ld false 1 (.t 42)⟩), (2, ⟨some 44, none, .fa 3 3 (.t 2)⟩), (3, ⟨some 45, none, .ld false 1 (.t 44)⟩), (4, ⟨some 46, none, .mov (.t 7)⟩), (5, ⟨some 47, none, .ixa 3 (.t 45) (.t 46)⟩), (6, ⟨some 48, none, .ld true 3 (.t 47)⟩), (7, ⟨some 49, none, .bsl false 36 3 1 (.struct [.int (.i64) 0, .nils, .int (.i64) 0]) [(0, .t 48)]⟩), (8, ⟨some 50, none, .app 36 3 40 (.t 43) (.t 49)⟩), (9, ⟨some 51, none, .fa 3 3 (.t 6)⟩), (10, ⟨none, none, .st 1 (.t 51) (.t 50)⟩)] env H) : aw PP law18_GrammarRemoveRule_c19 K env H := aw_dreg_lex _ law18_GrammarRemoveRule_c19_ok h
def law18_GrammarRemoveRule_c20 : AC := .cond (.t 41) law18_GrammarRemoveRule_c19 .skip
@[simp] theorem law18_GrammarRemoveRule_c20_eq : aw PP law18_GrammarRemoveRule_c20 K env H = condQ PP (Opd.ev env (.t 41)) law18_GrammarRemoveRule_c19 .skip K env H := aw_cond _ law18_GrammarRemoveRule_c19 .skip
def law18_GrammarRemoveRule_c21 : AC := .seq law18_GrammarRemoveRule_c18 law18_GrammarRemoveRule_c20
@[simp] theorem law18_GrammarRemoveRule_c21_eq : aw PP law18_GrammarRemoveRule_c21 K env H = aw PP law18_GrammarRemoveRule_c18 (seqK PP law18_GrammarRemoveRule_c20 K) env H := aw_seq law18_GrammarRemoveRule_c18 law18_GrammarRemoveRule_c20
def law18_GrammarRemoveRule_c22 : AC := .block 1 law18_GrammarRemoveRule_c21
@[simp] theorem law18_GrammarRemoveRule_c22_eq : aw PP law18_GrammarRemoveRule_c22 K env H = aw PP law18_GrammarRemoveRule_c21 (blockK 1 K) env H := aw_block _ law18_GrammarRemoveRule_c21
def law18_GrammarRemoveRule_c23 : AC := .reg [⟨some 37, none, .mov (.t 7)⟩, ⟨some 38, none, .bin (.add) (.t 37) (.c (.int (.i64) 1))⟩, ⟨some 7, none, .mov (.t 38)⟩] [37, 38, 41]
@[simp] theorem law18_GrammarRemoveRule_c23_eq : aw PP law18_GrammarRemoveRule_c23 K env H = awOps PP [⟨some 37, none, .mov (.t 7)⟩, ⟨some 38, none, .bin (.add) (.t 37) (.c (.int (.i64) 1))⟩, ⟨some 7, none, .mov (.t 38)⟩] (regK K [37, 38, 41]) (panK K) env H := aw_reg _ _
def law18_GrammarRemoveRule_c24 : AC := .seq law18_GrammarRemoveRule_c22 law18_GrammarRemoveRule_c23
@[simp] theorem law18_GrammarRemoveRule_c24_eq : aw PP law18_GrammarRemoveRule_c24 K env H = aw PP law18_GrammarRemoveRule_c22 (seqK PP law18_GrammarRemoveRule_c23 K) env H := aw_seq law18_GrammarRemoveRule_c22 law18_GrammarRemoveRule_c23
def law18_GrammarRemoveRule_c25 : AC := .seq law18_GrammarRemoveRule_c17 law18_GrammarRemoveRule_c24
@[simp] theorem law18_GrammarRemoveRule_c25_eq : aw PP law18_GrammarRemoveRule_c25 K env H = aw PP law18_GrammarRemoveRule_c17 (seqK PP law18_GrammarRemoveRule_c24 K) env H := aw_seq law18_GrammarRemoveRule_c17 law18_GrammarRemoveRule_c24
def law18_GrammarRemoveRule_c26 : AC := .loop law18_GrammarRemoveRule_c25
def law18_GrammarRemoveRule_c27 : AC := .block 0 law18_GrammarRemoveRule_c26
@[simp] theorem law18_GrammarRemoveRule_c27_eq : aw PP law18_GrammarRemoveRule_c27 K env H = aw PP law18_GrammarRemoveRule_c26 (blockK 0 K) env H := aw_block _ law18_GrammarRemoveRule_c26
def law18_GrammarRemoveRule_c28 : AC := .seq law18_GrammarRemoveRule_c14 law18_GrammarRemoveRule_c27
@[simp] theorem law18_GrammarRemoveRule_c28_eq : aw PP law18_GrammarRemoveRule_c28 K env H = aw PP law18_GrammarRemoveRule_c14 (seqK PP law18_GrammarRemoveRule_c27 K) env H := aw_seq law18_GrammarRemoveRule_c14 law18_GrammarRemoveRule_c27
def law18_GrammarRemoveRule_c29 : AC := .reg [⟨some 52, none, .ld true 4 (.t 6)⟩, ⟨some 53, none, .call (.c (.fn (.func 12) [] [])) [.t 52]⟩, ⟨some 54, none, .mov (.t 53)⟩, ⟨some 55, some (54, true), .ld true 4 (.t 2)⟩, ⟨some 56, some (54, true), .ld true 4 (.t 6)⟩, ⟨some 57, some (54, true), .call (.c (.fn (.func 14) [] [])) [.t 55, .t 56]⟩, ⟨some 58, some (54, true), .not (.t 57)⟩, ⟨some 59, none, .pick (.t 54) (.t 58) (.c (.bool false))⟩, ⟨some 4, none, .mov (.t 59)⟩] [2, 5, 6, 7, 36, 52, 53, 54, 55, 56, 57, 58, 59]
@[simp] theorem law18_GrammarRemoveRule_c29_eq : aw PP law18_GrammarRemoveRule_c29 K env H = awOps PP [⟨some 52, none, .ld true 4 (.t 6)⟩, ⟨some 53, none, .call (.c (.fn (.func 12) [] [])) [.t 52]⟩, ⟨some 54, none, .mov (.t 53)⟩, ⟨some 55, some (54, true), .ld true 4 (.t 2)⟩, ⟨some 56, some (54, true), .ld true 4 (.t 6)⟩, ⟨some 57, some (54, true), .call (.c (.fn (.func 14) [] [])) [.t 55, .t 56]⟩, ⟨some 58, some (54, true), .not (.t 57)⟩, ⟨some 59, none, .pick (.t 54) (.t 58) (.c (.bool false))⟩, ⟨some 4, none, .mov (.t 59)⟩] (regK K [2, 5, 6, 7, 36, 52, 53, 54, 55, 56, 57, 58, 59]) (panK K) env H := aw_reg _ _
def law18_GrammarRemoveRule_c30 : AC := .seq law18_GrammarRemoveRule_c29 .ret
@[simp] theorem law18_GrammarRemoveRule_c30_eq : aw PP law18_GrammarRemoveRule_c30 K env H = aw PP law18_GrammarRemoveRule_c29 (seqK PP .ret K) env H := aw_seq law18_GrammarRemoveRule_c29 .ret
def law18_GrammarRemoveRule_c31 : AC := .seq law18_GrammarRemoveRule_c28 law18_GrammarRemoveRule_c30
@[simp] theorem law18_GrammarRemoveRule_c31_eq : aw PP law18_GrammarRemoveRule_c31 K env H = aw PP law18_GrammarRemoveRule_c28 (seqK PP law18_GrammarRemoveRule_c30 K) env H := aw_seq law18_GrammarRemoveRule_c28 law18_GrammarRemoveRule_c30
def law18_GrammarRemoveRule_c32 : AC := .seq law18_GrammarRemoveRule_c13 law18_GrammarRemoveRule_c31
@[simp] theorem law18_GrammarRemoveRule_c32_eq : aw PP law18_GrammarRemoveRule_c32 K env H = aw PP law18_GrammarRemoveRule_c13 (seqK PP law18_GrammarRemoveRule_c31 K) env H := aw_seq law18_GrammarRemoveRule_c13 law18_GrammarRemoveRule_c31
def law18_GrammarRemoveRule_c33 : AC := .seq law18_GrammarRemoveRule_c12 law18_GrammarRemoveRule_c32
@[simp] theorem law18_GrammarRemoveRule_c33_eq : aw PP law18_GrammarRemoveRule_c33 K env H = aw PP law18_GrammarRemoveRule_c12 (seqK PP law18_GrammarRemoveRule_c32 K) env H := aw_seq law18_GrammarRemoveRule_c12 law18_GrammarRemoveRule_c32
def law18_GrammarRemoveRule_c34 : AC := .seq law18_GrammarRemoveRule_c11 law18_GrammarRemoveRule_c33
@[simp] theorem law18_GrammarRemoveRule_c34_eq : aw PP law18_GrammarRemoveRule_c34 K env H = aw PP law18_GrammarRemoveRule_c11 (seqK PP law18_GrammarRemoveRule_c33 K) env H := aw_seq law18_GrammarRemoveRule_c11 law18_GrammarRemoveRule_c33
def law18_GrammarRemoveRule_c35 : AC := .seq law18_GrammarRemoveRule_c10 law18_GrammarRemoveRule_c34
@[simp] theorem law18_GrammarRemoveRule_c35_eq : aw PP law18_GrammarRemoveRule_c35 K env H = aw PP law18_GrammarRemoveRule_c10 (seqK PP law18_GrammarRemoveRule_c34 K) env H := aw_seq law18_GrammarRemoveRule_c10 law18_GrammarRemoveRule_c34
def law18_GrammarRemoveRule_c36 : AC := .seq law18_GrammarRemoveRule_c5 law18_GrammarRemoveRule_c35
@[simp] theorem law18_GrammarRemoveRule_c36_eq : aw PP law18_GrammarRemoveRule_c36 K env H = aw PP law18_GrammarRemoveRule_c5 (seqK PP law18_GrammarRemoveRule_c35 K) env H := aw_seq law18_GrammarRemoveRule_c5 law18_GrammarRemoveRule_c35
def law18_GrammarRemoveRule_c37 : AC := .seq law18_GrammarRemoveRule_c0 law18_GrammarRemoveRule_c36
@[simp] theorem law18_GrammarRemoveRule_c37_eq : aw PP law18_GrammarRemoveRule_c37 K env H = aw PP law18_GrammarRemoveRule_c0 (seqK PP law18_GrammarRemoveRule_c36 K) env H := aw_seq law18_GrammarRemoveRule_c0 law18_GrammarRemoveRule_c36
def law18_GrammarRemoveRule_ac : AC := law18_GrammarRemoveRule_c37
@[simp] theorem law18_GrammarRemoveRule_ac_eq : aw PP law18_GrammarRemoveRule_ac K env H = aw PP law18_GrammarRemoveRule_c37 K env H := Eq.trans rfl rfl
def law18_GrammarRemoveRule_rs : List ARV := [.tmp 4]
abbrev law18_GrammarRemoveRule_id : Nat := 9
theorem law18_GrammarRemoveRule_comp : compF PP law18_GrammarRemoveRule_kl law18_GrammarRemoveRule_ow 2 Tryd.f9 = some (law18_GrammarRemoveRule_ac, law18_GrammarRemoveRule_rs) := by kernel_rfl
theorem law18_GrammarRemoveRule_enter {args : List AV} {H : AHeap} {post : ARes → AHeap → Prop} (ha : args.length = 2) (h : aw PP law18_GrammarRemoveRule_ac (retK law18_GrammarRemoveRule_rs post) (argEnv 0 args) H) : ACalls PP law18_GrammarRemoveRule_id args H post := .enterF Tryd.func9 PP_mix law18_GrammarRemoveRule_comp ha h

end Go.Av
