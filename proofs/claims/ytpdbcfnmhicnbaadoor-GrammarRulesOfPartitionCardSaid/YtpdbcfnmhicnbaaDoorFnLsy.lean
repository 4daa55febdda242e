/- Functions of the given program, compiled to the own form by program. -/
import Derived.Test.YtpdbcfnmhicnbaaDoorFnB
set_option linter.unusedVariables false
set_option linter.unusedSimpArgs false
namespace Go.Av
open Go Go.Proofs
variable {K : AK} {env : Env} {H : AHeap}
/-! emendate.emendatelaw18.GrammarSymbolInverse -/
def law18_GrammarSymbolInverse_kl : Nat → List Nat
  | 0 => [0, 4]
  | 1 => [12]
  | 2 => [1, 2, 13]
  | 3 => [13, 14, 15]
  | 4 => [1, 2, 16]
  | 5 => [16, 17, 18, 19, 20, 21, 22]
  | 6 => [1, 23, 24, 25, 26, 27, 28]
  | 7 => [5, 6, 7, 8, 29, 30, 31, 32, 33, 34, 35]
  | 8 => [2, 36]
  | 9 => [36]
  | 10 => [37, 38, 39, 40, 41, 42, 43, 44]
  | 11 => [46, 47, 65]
  | 12 => [45, 48, 49, 50, 51, 52, 53, 54, 55, 56, 57]
  | 13 => [10, 11, 58, 59, 60, 61, 62, 63, 64]
  | 14 => [2, 9, 65]
  | 15 => [2, 9, 45]
  | _ => []
def law18_GrammarSymbolInverse_ow : Nat → Nat → Bool := fun _ _ => false
def law18_GrammarSymbolInverse_c0 : AC := .reg [⟨some 2, none, .box (.t 0) 4 25⟩, ⟨some 4, none, .mov (.c (.bool false))⟩] [0, 4]
@[simp] theorem law18_GrammarSymbolInverse_c0_eq : aw PP law18_GrammarSymbolInverse_c0 K env H = awOps PP [⟨some 2, none, .box (.t 0) 4 25⟩, ⟨some 4, none, .mov (.c (.bool false))⟩] (regK K [0, 4]) (panK K) env H := aw_reg _ _
def law18_GrammarSymbolInverse_c1 : AC := .reg [⟨some 12, none, .call (.c (.fn (.func 10) [] [])) []⟩, ⟨some 13, none, .not (.t 12)⟩] [12]
@[simp] theorem law18_GrammarSymbolInverse_c1_eq : aw PP law18_GrammarSymbolInverse_c1 K env H = awOps PP [⟨some 12, none, .call (.c (.fn (.func 10) [] [])) []⟩, ⟨some 13, none, .not (.t 12)⟩] (regK K [12]) (panK K) env H := aw_reg _ _
def law18_GrammarSymbolInverse_c2 : AC := .reg [⟨some 4, none, .mov (.c (.bool false))⟩] [1, 2, 13]
@[simp] theorem law18_GrammarSymbolInverse_c2_eq : aw PP law18_GrammarSymbolInverse_c2 K env H = awOps PP [⟨some 4, none, .mov (.c (.bool false))⟩] (regK K [1, 2, 13]) (panK K) env H := aw_reg _ _
def law18_GrammarSymbolInverse_c3 : AC := .seq law18_GrammarSymbolInverse_c2 .ret
@[simp] theorem law18_GrammarSymbolInverse_c3_eq : aw PP law18_GrammarSymbolInverse_c3 K env H = aw PP law18_GrammarSymbolInverse_c2 (seqK PP .ret K) env H := aw_seq law18_GrammarSymbolInverse_c2 .ret
def law18_GrammarSymbolInverse_c4 : AC := .cond (.t 13) law18_GrammarSymbolInverse_c3 .skip
@[simp] theorem law18_GrammarSymbolInverse_c4_eq : aw PP law18_GrammarSymbolInverse_c4 K env H = condQ PP (Opd.ev env (.t 13)) law18_GrammarSymbolInverse_c3 .skip K env H := aw_cond _ law18_GrammarSymbolInverse_c3 .skip
def law18_GrammarSymbolInverse_c5 : AC := .seq law18_GrammarSymbolInverse_c1 law18_GrammarSymbolInverse_c4
@[simp] theorem law18_GrammarSymbolInverse_c5_eq : aw PP law18_GrammarSymbolInverse_c5 K env H = aw PP law18_GrammarSymbolInverse_c1 (seqK PP law18_GrammarSymbolInverse_c4 K) env H := aw_seq law18_GrammarSymbolInverse_c1 law18_GrammarSymbolInverse_c4
def law18_GrammarSymbolInverse_c6 : AC := .reg [⟨some 14, none, .ld true 4 (.t 2)⟩, ⟨some 15, none, .call (.c (.fn (.func 11) [] [])) [.t 14]⟩, ⟨some 16, none, .not (.t 15)⟩] [13, 14, 15]
@[simp] theorem law18_GrammarSymbolInverse_c6_eq : aw PP law18_GrammarSymbolInverse_c6 K env H = awOps PP [⟨some 14, none, .ld true 4 (.t 2)⟩, ⟨some 15, none, .call (.c (.fn (.func 11) [] [])) [.t 14]⟩, ⟨some 16, none, .not (.t 15)⟩] (regK K [13, 14, 15]) (panK K) env H := aw_reg _ _
def law18_GrammarSymbolInverse_c7 : AC := .reg [⟨some 4, none, .mov (.c (.bool true))⟩] [1, 2, 16]
@[simp] theorem law18_GrammarSymbolInverse_c7_eq : aw PP law18_GrammarSymbolInverse_c7 K env H = awOps PP [⟨some 4, none, .mov (.c (.bool true))⟩] (regK K [1, 2, 16]) (panK K) env H := aw_reg _ _
def law18_GrammarSymbolInverse_c8 : AC := .seq law18_GrammarSymbolInverse_c7 .ret
@[simp] theorem law18_GrammarSymbolInverse_c8_eq : aw PP law18_GrammarSymbolInverse_c8 K env H = aw PP law18_GrammarSymbolInverse_c7 (seqK PP .ret K) env H := aw_seq law18_GrammarSymbolInverse_c7 .ret
def law18_GrammarSymbolInverse_c9 : AC := .cond (.t 16) law18_GrammarSymbolInverse_c8 .skip
@[simp] theorem law18_GrammarSymbolInverse_c9_eq : aw PP law18_GrammarSymbolInverse_c9 K env H = condQ PP (Opd.ev env (.t 16)) law18_GrammarSymbolInverse_c8 .skip K env H := aw_cond _ law18_GrammarSymbolInverse_c8 .skip
def law18_GrammarSymbolInverse_c10 : AC := .seq law18_GrammarSymbolInverse_c6 law18_GrammarSymbolInverse_c9
@[simp] theorem law18_GrammarSymbolInverse_c10_eq : aw PP law18_GrammarSymbolInverse_c10 K env H = aw PP law18_GrammarSymbolInverse_c6 (seqK PP law18_GrammarSymbolInverse_c9 K) env H := aw_seq law18_GrammarSymbolInverse_c6 law18_GrammarSymbolInverse_c9
def law18_GrammarSymbolInverse_c11 : AC := .reg [⟨some 18, none, .ld true 4 (.t 2)⟩, ⟨some 19, none, .mov (.t 1)⟩, ⟨some 20, none, .call (.c (.fn (.func 18) [] [])) [.t 18, .t 19]⟩, ⟨some 17, none, .mov (.t 20)⟩, ⟨some 21, none, .ext (.t 17) 0⟩, ⟨some 22, none, .ext (.t 17) 1⟩, ⟨some 5, none, .mov (.t 21)⟩, ⟨some 6, none, .mov (.t 22)⟩] [16, 17, 18, 19, 20, 21, 22]
@[simp] theorem law18_GrammarSymbolInverse_c11_eq : aw PP law18_GrammarSymbolInverse_c11 K env H = awOps PP [⟨some 18, none, .ld true 4 (.t 2)⟩, ⟨some 19, none, .mov (.t 1)⟩, ⟨some 20, none, .call (.c (.fn (.func 18) [] [])) [.t 18, .t 19]⟩, ⟨some 17, none, .mov (.t 20)⟩, ⟨some 21, none, .ext (.t 17) 0⟩, ⟨some 22, none, .ext (.t 17) 1⟩, ⟨some 5, none, .mov (.t 21)⟩, ⟨some 6, none, .mov (.t 22)⟩] (regK K [16, 17, 18, 19, 20, 21, 22]) (panK K) env H := aw_reg _ _
def law18_GrammarSymbolInverse_c12 : AC := .reg [⟨some 24, none, .ld true 4 (.t 2)⟩, ⟨some 25, none, .mov (.t 1)⟩, ⟨some 26, none, .call (.c (.fn (.func 19) [] [])) [.t 24, .t 25]⟩, ⟨some 23, none, .mov (.t 26)⟩, ⟨some 27, none, .ext (.t 23) 0⟩, ⟨some 28, none, .ext (.t 23) 1⟩, ⟨some 7, none, .mov (.t 27)⟩, ⟨some 8, none, .mov (.t 28)⟩] [1, 23, 24, 25, 26, 27, 28]
@[simp] theorem law18_GrammarSymbolInverse_c12_eq : aw PP law18_GrammarSymbolInverse_c12 K env H = awOps PP [⟨some 24, none, .ld true 4 (.t 2)⟩, ⟨some 25, none, .mov (.t 1)⟩, ⟨some 26, none, .call (.c (.fn (.func 19) [] [])) [.t 24, .t 25]⟩, ⟨some 23, none, .mov (.t 26)⟩, ⟨some 27, none, .ext (.t 23) 0⟩, ⟨some 28, none, .ext (.t 23) 1⟩, ⟨some 7, none, .mov (.t 27)⟩, ⟨some 8, none, .mov (.t 28)⟩] (regK K [1, 23, 24, 25, 26, 27, 28]) (panK K) env H := aw_reg _ _
def law18_GrammarSymbolInverse_c13 : AC := .reg [⟨some 29, none, .mov (.t 5)⟩, ⟨some 30, none, .mov (.t 7)⟩, ⟨some 31, none, .bin (.neq) (.t 29) (.t 30)⟩, ⟨some 32, none, .mov (.t 31)⟩, ⟨some 33, some (32, false), .mov (.t 6)⟩, ⟨some 34, some (32, false), .mov (.t 8)⟩, ⟨some 35, some (32, false), .beq true (.t 33) (.t 34)⟩, ⟨some 36, none, .pick (.t 32) (.c (.bool true)) (.t 35)⟩] [5, 6, 7, 8, 29, 30, 31, 32, 33, 34, 35]
@[simp] theorem law18_GrammarSymbolInverse_c13_eq : aw PP law18_GrammarSymbolInverse_c13 K env H = awOps PP [⟨some 29, none, .mov (.t 5)⟩, ⟨some 30, none, .mov (.t 7)⟩, ⟨some 31, none, .bin (.neq) (.t 29) (.t 30)⟩, ⟨some 32, none, .mov (.t 31)⟩, ⟨some 33, some (32, false), .mov (.t 6)⟩, ⟨some 34, some (32, false), .mov (.t 8)⟩, ⟨some 35, some (32, false), .beq true (.t 33) (.t 34)⟩, ⟨some 36, none, .pick (.t 32) (.c (.bool true)) (.t 35)⟩] (regK K [5, 6, 7, 8, 29, 30, 31, 32, 33, 34, 35]) (panK K) env H := aw_reg _ _
def law18_GrammarSymbolInverse_c14 : AC := .reg [⟨some 4, none, .mov (.c (.bool false))⟩] [2, 36]
@[simp] theorem law18_GrammarSymbolInverse_c14_eq : aw PP law18_GrammarSymbolInverse_c14 K env H = awOps PP [⟨some 4, none, .mov (.c (.bool false))⟩] (regK K [2, 36]) (panK K) env H := aw_reg _ _
def law18_GrammarSymbolInverse_c15 : AC := .seq law18_GrammarSymbolInverse_c14 .ret
@[simp] theorem law18_GrammarSymbolInverse_c15_eq : aw PP law18_GrammarSymbolInverse_c15 K env H = aw PP law18_GrammarSymbolInverse_c14 (seqK PP .ret K) env H := aw_seq law18_GrammarSymbolInverse_c14 .ret
def law18_GrammarSymbolInverse_c16 : AC := .cond (.t 36) law18_GrammarSymbolInverse_c15 .skip
@[simp] theorem law18_GrammarSymbolInverse_c16_eq : aw PP law18_GrammarSymbolInverse_c16 K env H = condQ PP (Opd.ev env (.t 36)) law18_GrammarSymbolInverse_c15 .skip K env H := aw_cond _ law18_GrammarSymbolInverse_c15 .skip
def law18_GrammarSymbolInverse_c17 : AC := .seq law18_GrammarSymbolInverse_c13 law18_GrammarSymbolInverse_c16
@[simp] theorem law18_GrammarSymbolInverse_c17_eq : aw PP law18_GrammarSymbolInverse_c17 K env H = aw PP law18_GrammarSymbolInverse_c13 (seqK PP law18_GrammarSymbolInverse_c16 K) env H := aw_seq law18_GrammarSymbolInverse_c13 law18_GrammarSymbolInverse_c16
def law18_GrammarSymbolInverse_c18 : AC := .reg [⟨some 9, none, .mov (.c (.int (.i64) 0))⟩] [36]
@[simp] theorem law18_GrammarSymbolInverse_c18_eq : aw PP law18_GrammarSymbolInverse_c18 K env H = awOps PP [⟨some 9, none, .mov (.c (.int (.i64) 0))⟩] (regK K [36]) (panK K) env H := aw_reg _ _
def law18_GrammarSymbolInverse_c19 : AC := .reg [⟨some 37, none, .mov (.t 9)⟩, ⟨some 38, none, .fa 1 1 (.t 2)⟩, ⟨some 39, none, .ld false 1 (.t 38)⟩, ⟨some 40, none, .lenl (.t 39)⟩, ⟨some 41, none, .bin (.lss) (.t 37) (.t 40)⟩, ⟨some 42, none, .mov (.t 41)⟩, ⟨some 43, some (42, true), .ld true 4 (.t 2)⟩, ⟨some 44, some (42, true), .call (.c (.fn (.func 13) [] [])) [.t 43]⟩, ⟨some 45, none, .pick (.t 42) (.t 44) (.c (.bool false))⟩] [37, 38, 39, 40, 41, 42, 43, 44]
@[simp] theorem law18_GrammarSymbolInverse_c19_eq : aw PP law18_GrammarSymbolInverse_c19 K env H = awOps PP [⟨some 37, none, .mov (.t 9)⟩, ⟨some 38, none, .fa 1 1 (.t 2)⟩, ⟨some 39, none, .ld false 1 (.t 38)⟩, ⟨some 40, none, .lenl (.t 39)⟩, ⟨some 41, none, .bin (.lss) (.t 37) (.t 40)⟩, ⟨some 42, none, .mov (.t 41)⟩, ⟨some 43, some (42, true), .ld true 4 (.t 2)⟩, ⟨some 44, some (42, true), .call (.c (.fn (.func 13) [] [])) [.t 43]⟩, ⟨some 45, none, .pick (.t 42) (.t 44) (.c (.bool false))⟩] (regK K [37, 38, 39, 40, 41, 42, 43, 44]) (panK K) env H := aw_reg _ _
def law18_GrammarSymbolInverse_c20 : AC := .cond (.t 45) .skip (.exit 0)
@[simp] theorem law18_GrammarSymbolInverse_c20_eq : aw PP law18_GrammarSymbolInverse_c20 K env H = condQ PP (Opd.ev env (.t 45)) .skip (.exit 0) K env H := aw_cond _ .skip (.exit 0)
def law18_GrammarSymbolInverse_c21 : AC := .seq law18_GrammarSymbolInverse_c19 law18_GrammarSymbolInverse_c20
@[simp] theorem law18_GrammarSymbolInverse_c21_eq : aw PP law18_GrammarSymbolInverse_c21 K env H = aw PP law18_GrammarSymbolInverse_c19 (seqK PP law18_GrammarSymbolInverse_c20 K) env H := aw_seq law18_GrammarSymbolInverse_c19 law18_GrammarSymbolInverse_c20
def law18_GrammarSymbolInverse_c22_ops : List (AI × List Nat) := [(⟨some 49, none, .ld true 4 (.t 2)⟩, []), (⟨some 50, none, .fa 1 1 (.t 2)⟩, []), (⟨some 51, none, .ld false 1 (.t 50)⟩, [1]), (⟨some 52, none, .mov (.t 9)⟩, []), (⟨some 53, none, .ixa 1 (.t 51) (.t 52)⟩, [2, 3]), (⟨some 54, none, .ld false 1 (.t 53)⟩, [4]), (⟨some 55, none, .call (.c (.fn (.func 18) [] [])) [.t 49, .t 54]⟩, [0, 5]), (⟨some 48, none, .mov (.t 55)⟩, [6]), (⟨some 56, none, .ext (.t 48) 0⟩, [7]), (⟨some 57, none, .ext (.t 48) 1⟩, [7]), (⟨some 10, none, .mov (.t 56)⟩, [8, 6, 0, 1, 2, 3, 4, 5, 6, 7, 8]), (⟨some 11, none, .mov (.t 57)⟩, [9, 10, 0, 1, 2, 3, 4, 5, 6, 7, 8, 9, 10])]
def law18_GrammarSymbolInverse_c22 : AC := .dreg law18_GrammarSymbolInverse_c22_ops [45, 48, 49, 50, 51, 52, 53, 54, 55, 56, 57]
theorem law18_GrammarSymbolInverse_c22_ok : lexOK law18_GrammarSymbolInverse_c22_ops (fun i => [].contains i) = true := by kernel_rfl
theorem law18_GrammarSymbolInverse_c22_lex (h : awLex PP (fun i => [].contains i) (regK K [45, 48, 49, 50, 51, 52, 53, 54, 55, 56, 57]) (panK K) [(0, ⟨some 49, none, .ld true 4 (.t 2)⟩), (1, ⟨some 50, none, .fa 1 1 (.t 2)⟩), (2, ⟨some 51, none, .ld false 1 (.t 50)⟩), (3, ⟨some 52, none, .mov (.t 9)⟩), (4, ⟨some 53, none, .ixa 1 (.t 51) (.t 52)⟩), (5, ⟨some 54, none, .ld false 1 (.t 53)⟩), (6, ⟨some 55, none, .call (.c (.fn (.func 18) [] [])) [.t 49, .t 54]⟩), (7, ⟨some 48, none, .mov (.t 55)⟩), (8, ⟨some 56, none, .ext (.t 48) 0⟩), (9, ⟨some 57, none, .ext (.t 48) 1⟩), (10, ⟨some 10, none, .mov (.t 56)⟩), (11, ⟨some 11, none, .mov (.t 57)⟩)] env H) : aw PP law18_GrammarSymbolInverse_c22 K env H := aw_dreg_lex _ law18_GrammarSymbolInverse_c22_ok h
theorem law18_GrammarSymbolInverse_c22_okF : lexOKF law18_GrammarSymbolInverse_c22_ops 11 (fun i => [6].contains i) = true := by kernel_rfl
theorem law18_GrammarSymbolInverse_c22_lexF (B : List Nat) (h : awLexF PP 11 (fun i => [6].contains i) B H (regK K [45, 48, 49, 50, 51, 52, 53, 54, 55, 56, 57]) (panK K) [(0, ⟨some 49, none, .ld true 4 (.t 2)⟩), (1, ⟨some 50, none, .fa 1 1 (.t 2)⟩), (2, ⟨some 51, none, .ld false 1 (.t 50)⟩), (3, ⟨some 52, none, .mov (.t 9)⟩), (4, ⟨some 53, none, .ixa 1 (.t 51) (.t 52)⟩), (5, ⟨some 54, none, .ld false 1 (.t 53)⟩), (6, ⟨some 55, none, .call (.c (.fn (.func 18) [] [])) [.t 49, .t 54]⟩), (7, ⟨some 48, none, .mov (.t 55)⟩), (8, ⟨some 56, none, .ext (.t 48) 0⟩), (9, ⟨some 57, none, .ext (.t 48) 1⟩), (10, ⟨some 10, none, .mov (.t 56)⟩), (11, ⟨some 11, none, .mov (.t 57)⟩)] env H) : aw PP law18_GrammarSymbolInverse_c22 K env H := aw_dreg_lexF _ _ B law18_GrammarSymbolInverse_c22_okF h
def law18_GrammarSymbolInverse_c23 : AC := .reg [⟨some 58, none, .mov (.t 11)⟩, ⟨some 59, none, .not (.t 58)⟩, ⟨some 60, none, .mov (.t 59)⟩, ⟨some 61, some (60, false), .mov (.t 10)⟩, ⟨some 62, some (60, false), .mov (.t 9)⟩, ⟨some 63, some (60, false), .bin (.sub) (.c (.int (.i64) (-1))) (.t 62)⟩, ⟨some 64, some (60, false), .bin (.neq) (.t 61) (.t 63)⟩, ⟨some 65, none, .pick (.t 60) (.c (.bool true)) (.t 64)⟩] [10, 11, 58, 59, 60, 61, 62, 63, 64]
@[simp] theorem law18_GrammarSymbolInverse_c23_eq : aw PP law18_GrammarSymbolInverse_c23 K env H = awOps PP [⟨some 58, none, .mov (.t 11)⟩, ⟨some 59, none, .not (.t 58)⟩, ⟨some 60, none, .mov (.t 59)⟩, ⟨some 61, some (60, false), .mov (.t 10)⟩, ⟨some 62, some (60, false), .mov (.t 9)⟩, ⟨some 63, some (60, false), .bin (.sub) (.c (.int (.i64) (-1))) (.t 62)⟩, ⟨some 64, some (60, false), .bin (.neq) (.t 61) (.t 63)⟩, ⟨some 65, none, .pick (.t 60) (.c (.bool true)) (.t 64)⟩] (regK K [10, 11, 58, 59, 60, 61, 62, 63, 64]) (panK K) env H := aw_reg _ _
def law18_GrammarSymbolInverse_c24 : AC := .reg [⟨some 4, none, .mov (.c (.bool false))⟩] [2, 9, 65]
@[simp] theorem law18_GrammarSymbolInverse_c24_eq : aw PP law18_GrammarSymbolInverse_c24 K env H = awOps PP [⟨some 4, none, .mov (.c (.bool false))⟩] (regK K [2, 9, 65]) (panK K) env H := aw_reg _ _
def law18_GrammarSymbolInverse_c25 : AC := .seq law18_GrammarSymbolInverse_c24 .ret
@[simp] theorem law18_GrammarSymbolInverse_c25_eq : aw PP law18_GrammarSymbolInverse_c25 K env H = aw PP law18_GrammarSymbolInverse_c24 (seqK PP .ret K) env H := aw_seq law18_GrammarSymbolInverse_c24 .ret
def law18_GrammarSymbolInverse_c26 : AC := .cond (.t 65) law18_GrammarSymbolInverse_c25 .skip
@[simp] theorem law18_GrammarSymbolInverse_c26_eq : aw PP law18_GrammarSymbolInverse_c26 K env H = condQ PP (Opd.ev env (.t 65)) law18_GrammarSymbolInverse_c25 .skip K env H := aw_cond _ law18_GrammarSymbolInverse_c25 .skip
def law18_GrammarSymbolInverse_c27 : AC := .seq law18_GrammarSymbolInverse_c23 law18_GrammarSymbolInverse_c26
@[simp] theorem law18_GrammarSymbolInverse_c27_eq : aw PP law18_GrammarSymbolInverse_c27 K env H = aw PP law18_GrammarSymbolInverse_c23 (seqK PP law18_GrammarSymbolInverse_c26 K) env H := aw_seq law18_GrammarSymbolInverse_c23 law18_GrammarSymbolInverse_c26
def law18_GrammarSymbolInverse_c28 : AC := .seq law18_GrammarSymbolInverse_c22 law18_GrammarSymbolInverse_c27
@[simp] theorem law18_GrammarSymbolInverse_c28_eq : aw PP law18_GrammarSymbolInverse_c28 K env H = aw PP law18_GrammarSymbolInverse_c22 (seqK PP law18_GrammarSymbolInverse_c27 K) env H := aw_seq law18_GrammarSymbolInverse_c22 law18_GrammarSymbolInverse_c27
def law18_GrammarSymbolInverse_c29 : AC := .block 1 law18_GrammarSymbolInverse_c28
@[simp] theorem law18_GrammarSymbolInverse_c29_eq : aw PP law18_GrammarSymbolInverse_c29 K env H = aw PP law18_GrammarSymbolInverse_c28 (blockK 1 K) env H := aw_block _ law18_GrammarSymbolInverse_c28
def law18_GrammarSymbolInverse_c30 : AC := .reg [⟨some 46, none, .mov (.t 9)⟩, ⟨some 47, none, .bin (.add) (.t 46) (.c (.int (.i64) 1))⟩, ⟨some 9, none, .mov (.t 47)⟩] [46, 47, 65]
@[simp] theorem law18_GrammarSymbolInverse_c30_eq : aw PP law18_GrammarSymbolInverse_c30 K env H = awOps PP [⟨some 46, none, .mov (.t 9)⟩, ⟨some 47, none, .bin (.add) (.t 46) (.c (.int (.i64) 1))⟩, ⟨some 9, none, .mov (.t 47)⟩] (regK K [46, 47, 65]) (panK K) env H := aw_reg _ _
def law18_GrammarSymbolInverse_c31 : AC := .seq law18_GrammarSymbolInverse_c29 law18_GrammarSymbolInverse_c30
@[simp] theorem law18_GrammarSymbolInverse_c31_eq : aw PP law18_GrammarSymbolInverse_c31 K env H = aw PP law18_GrammarSymbolInverse_c29 (seqK PP law18_GrammarSymbolInverse_c30 K) env H := aw_seq law18_GrammarSymbolInverse_c29 law18_GrammarSymbolInverse_c30
def law18_GrammarSymbolInverse_c32 : AC := .seq law18_GrammarSymbolInverse_c21 law18_GrammarSymbolInverse_c31
@[simp] theorem law18_GrammarSymbolInverse_c32_eq : aw PP law18_GrammarSymbolInverse_c32 K env H = aw PP law18_GrammarSymbolInverse_c21 (seqK PP law18_GrammarSymbolInverse_c31 K) env H := aw_seq law18_GrammarSymbolInverse_c21 law18_GrammarSymbolInverse_c31
def law18_GrammarSymbolInverse_c33 : AC := .loop law18_GrammarSymbolInverse_c32
def law18_GrammarSymbolInverse_c34 : AC := .block 0 law18_GrammarSymbolInverse_c33
@[simp] theorem law18_GrammarSymbolInverse_c34_eq : aw PP law18_GrammarSymbolInverse_c34 K env H = aw PP law18_GrammarSymbolInverse_c33 (blockK 0 K) env H := aw_block _ law18_GrammarSymbolInverse_c33
def law18_GrammarSymbolInverse_c35 : AC := .seq law18_GrammarSymbolInverse_c18 law18_GrammarSymbolInverse_c34
@[simp] theorem law18_GrammarSymbolInverse_c35_eq : aw PP law18_GrammarSymbolInverse_c35 K env H = aw PP law18_GrammarSymbolInverse_c18 (seqK PP law18_GrammarSymbolInverse_c34 K) env H := aw_seq law18_GrammarSymbolInverse_c18 law18_GrammarSymbolInverse_c34
def law18_GrammarSymbolInverse_c36 : AC := .reg [⟨some 4, none, .mov (.c (.bool true))⟩] [2, 9, 45]
@[simp] theorem law18_GrammarSymbolInverse_c36_eq : aw PP law18_GrammarSymbolInverse_c36 K env H = awOps PP [⟨some 4, none, .mov (.c (.bool true))⟩] (regK K [2, 9, 45]) (panK K) env H := aw_reg _ _
def law18_GrammarSymbolInverse_c37 : AC := .seq law18_GrammarSymbolInverse_c36 .ret
@[simp] theorem law18_GrammarSymbolInverse_c37_eq : aw PP law18_GrammarSymbolInverse_c37 K env H = aw PP law18_GrammarSymbolInverse_c36 (seqK PP .ret K) env H := aw_seq law18_GrammarSymbolInverse_c36 .ret
def law18_GrammarSymbolInverse_c38 : AC := .seq law18_GrammarSymbolInverse_c35 law18_GrammarSymbolInverse_c37
@[simp] theorem law18_GrammarSymbolInverse_c38_eq : aw PP law18_GrammarSymbolInverse_c38 K env H = aw PP law18_GrammarSymbolInverse_c35 (seqK PP law18_GrammarSymbolInverse_c37 K) env H := aw_seq law18_GrammarSymbolInverse_c35 law18_GrammarSymbolInverse_c37
def law18_GrammarSymbolInverse_c39 : AC := .seq law18_GrammarSymbolInverse_c17 law18_GrammarSymbolInverse_c38
@[simp] theorem law18_GrammarSymbolInverse_c39_eq : aw PP law18_GrammarSymbolInverse_c39 K env H = aw PP law18_GrammarSymbolInverse_c17 (seqK PP law18_GrammarSymbolInverse_c38 K) env H := aw_seq law18_GrammarSymbolInverse_c17 law18_GrammarSymbolInverse_c38
def law18_GrammarSymbolInverse_c40 : AC := .seq law18_GrammarSymbolInverse_c12 law18_GrammarSymbolInverse_c39
@[simp] theorem law18_GrammarSymbolInverse_c40_eq : aw PP law18_GrammarSymbolInverse_c40 K env H = aw PP law18_GrammarSymbolInverse_c12 (seqK PP law18_GrammarSymbolInverse_c39 K) env H := aw_seq law18_GrammarSymbolInverse_c12 law18_GrammarSymbolInverse_c39
def law18_GrammarSymbolInverse_c41 : AC := .seq law18_GrammarSymbolInverse_c11 law18_GrammarSymbolInverse_c40
@[simp] theorem law18_GrammarSymbolInverse_c41_eq : aw PP law18_GrammarSymbolInverse_c41 K env H = aw PP law18_GrammarSymbolInverse_c11 (seqK PP law18_GrammarSymbolInverse_c40 K) env H := aw_seq law18_GrammarSymbolInverse_c11 law18_GrammarSymbolInverse_c40
def law18_GrammarSymbolInverse_c42 : AC := .seq law18_GrammarSymbolInverse_c10 law18_GrammarSymbolInverse_c41
@[simp] theorem law18_GrammarSymbolInverse_c42_eq : aw PP law18_GrammarSymbolInverse_c42 K env H = aw PP law18_GrammarSymbolInverse_c10 (seqK PP law18_GrammarSymbolInverse_c41 K) env H := aw_seq law18_GrammarSymbolInverse_c10 law18_GrammarSymbolInverse_c41
def law18_GrammarSymbolInverse_c43 : AC := .seq law18_GrammarSymbolInverse_c5 law18_GrammarSymbolInverse_c42
@[simp] theorem law18_GrammarSymbolInverse_c43_eq : aw PP law18_GrammarSymbolInverse_c43 K env H = aw PP law18_GrammarSymbolInverse_c5 (seqK PP law18_GrammarSymbolInverse_c42 K) env H := aw_seq law18_GrammarSymbolInverse_c5 law18_GrammarSymbolInverse_c42
def law18_GrammarSymbolInverse_c44 : AC := .seq law18_GrammarSymbolInverse_c0 law18_GrammarSymbolInverse_c43
@[simp] theorem law18_GrammarSymbolInverse_c44_eq : aw PP law18_GrammarSymbolInverse_c44 K env H = aw PP law18_GrammarSymbolInverse_c0 (seqK PP law18_GrammarSymbolInverse_c43 K) env H := aw_seq law18_GrammarSymbolInverse_c0 law18_GrammarSymbolInverse_c43
def law18_GrammarSymbolInverse_ac : AC := law18_GrammarSymbolInverse_c44
@[simp] theorem law18_GrammarSymbolInverse_ac_eq : aw PP law18_GrammarSymbolInverse_ac K env H = aw PP law18_GrammarSymbolInverse_c44 K env H := Eq.trans rfl rfl
def law18_GrammarSymbolInverse_rs : List ARV := [.tmp 4]
abbrev law18_GrammarSymbolInverse_id : Nat := 7
theorem law18_GrammarSymbolInverse_comp : compF PP law18_GrammarSymbolInverse_kl law18_GrammarSymbolInverse_ow 2 Tryd.f7 = some (law18_GrammarSymbolInverse_ac, law18_GrammarSymbolInverse_rs) := by kernel_rfl
theorem law18_GrammarSymbolInverse_enter {args : List AV} {H : AHeap} {post : ARes → AHeap → Prop} (ha : args.length = 2) (h : aw PP law18_GrammarSymbolInverse_ac (retK law18_GrammarSymbolInverse_rs post) (argEnv 0 args) H) : ACalls PP law18_GrammarSymbolInverse_id args H post := .enterF Tryd.func7 PP_mix law18_GrammarSymbolInverse_comp ha h

end Go.Av
