/- Functions of the given program, compiled to the own form by program. -/
import Derived.Test.YtpdbcfnmhicnbaaDoorFnB
set_option linter.unusedVariables false
set_option linter.unusedSimpArgs false
namespace Go.Av
open Go Go.Proofs
variable {K : AK} {env : Env} {H : AHeap}
/-! emendate.emendatelaw18.GrammarRulesOfPartition -/
def law18_GrammarRulesOfPartition_kl : Nat → List Nat
  | 0 => [0, 2]
  | 1 => [7]
  | 2 => [1, 8]
  | 3 => [8, 9, 10, 11, 12, 13, 14, 15]
  | 4 => [1, 16]
  | 5 => [16]
  | 7 => [17, 18, 19, 20]
  | 8 => [22, 23]
  | 9 => [21, 24, 25, 26]
  | 11 => [27, 28, 29]
  | 12 => [31, 32, 76]
  | 13 => [30, 33, 34, 35, 36, 37, 38, 39, 40, 41, 42, 43, 44, 45, 46, 47, 48, 49, 50, 51, 52, 53, 54, 55, 56, 57, 58, 59, 60, 61, 62, 63, 64, 65, 66, 67, 68, 69, 70, 71, 72, 73, 74, 75]
  | 14 => [1, 3, 4, 5, 6, 76]
  | 15 => [5, 6, 30, 77, 78, 79, 80]
  | 16 => [1, 3, 4, 21, 81, 82, 83, 84, 85]
  | _ => []
def law18_GrammarRulesOfPartition_ow : Nat → Nat → Bool := fun _ _ => false
def law18_GrammarRulesOfPartition_c0 : AC := .reg [⟨some 1, none, .box (.t 0) 4 25⟩, ⟨some 2, none, .mov (.c (.bool false))⟩] [0, 2]
@[simp] theorem law18_GrammarRulesOfPartition_c0_eq : aw PP law18_GrammarRulesOfPartition_c0 K env H = awOps PP [⟨some 1, none, .box (.t 0) 4 25⟩, ⟨some 2, none, .mov (.c (.bool false))⟩] (regK K [0, 2]) (panK K) env H := aw_reg _ _
def law18_GrammarRulesOfPartition_c1 : AC := .reg [⟨some 7, none, .call (.c (.fn (.func 10) [] [])) []⟩, ⟨some 8, none, .not (.t 7)⟩] [7]
@[simp] theorem law18_GrammarRulesOfPartition_c1_eq : aw PP law18_GrammarRulesOfPartition_c1 K env H = awOps PP [⟨some 7, none, .call (.c (.fn (.func 10) [] [])) []⟩, ⟨some 8, none, .not (.t 7)⟩] (regK K [7]) (panK K) env H := aw_reg _ _
def law18_GrammarRulesOfPartition_c2 : AC := .reg [⟨some 2, none, .mov (.c (.bool false))⟩] [1, 8]
@[simp] theorem law18_GrammarRulesOfPartition_c2_eq : aw PP law18_GrammarRulesOfPartition_c2 K env H = awOps PP [⟨some 2, none, .mov (.c (.bool false))⟩] (regK K [1, 8]) (panK K) env H := aw_reg _ _
def law18_GrammarRulesOfPartition_c3 : AC := .seq law18_GrammarRulesOfPartition_c2 .ret
@[simp] theorem law18_GrammarRulesOfPartition_c3_eq : aw PP law18_GrammarRulesOfPartition_c3 K env H = aw PP law18_GrammarRulesOfPartition_c2 (seqK PP .ret K) env H := aw_seq law18_GrammarRulesOfPartition_c2 .ret
def law18_GrammarRulesOfPartition_c4 : AC := .cond (.t 8) law18_GrammarRulesOfPartition_c3 .skip
@[simp] theorem law18_GrammarRulesOfPartition_c4_eq : aw PP law18_GrammarRulesOfPartition_c4 K env H = condQ PP (Opd.ev env (.t 8)) law18_GrammarRulesOfPartition_c3 .skip K env H := aw_cond _ law18_GrammarRulesOfPartition_c3 .skip
def law18_GrammarRulesOfPartition_c5 : AC := .seq law18_GrammarRulesOfPartition_c1 law18_GrammarRulesOfPartition_c4
@[simp] theorem law18_GrammarRulesOfPartition_c5_eq : aw PP law18_GrammarRulesOfPartition_c5 K env H = aw PP law18_GrammarRulesOfPartition_c1 (seqK PP law18_GrammarRulesOfPartition_c4 K) env H := aw_seq law18_GrammarRulesOfPartition_c1 law18_GrammarRulesOfPartition_c4
def law18_GrammarRulesOfPartition_c6 : AC := .reg [⟨some 9, none, .ld true 4 (.t 1)⟩, ⟨some 10, none, .call (.c (.fn (.func 11) [] [])) [.t 9]⟩, ⟨some 11, none, .not (.t 10)⟩, ⟨some 12, none, .mov (.t 11)⟩, ⟨some 13, some (12, false), .ld true 4 (.t 1)⟩, ⟨some 14, some (12, false), .call (.c (.fn (.func 13) [] [])) [.t 13]⟩, ⟨some 15, some (12, false), .not (.t 14)⟩, ⟨some 16, none, .pick (.t 12) (.c (.bool true)) (.t 15)⟩] [8, 9, 10, 11, 12, 13, 14, 15]
@[simp] theorem law18_GrammarRulesOfPartition_c6_eq : aw PP law18_GrammarRulesOfPartition_c6 K env H = awOps PP [⟨some 9, none, .ld true 4 (.t 1)⟩, ⟨some 10, none, .call (.c (.fn (.func 11) [] [])) [.t 9]⟩, ⟨some 11, none, .not (.t 10)⟩, ⟨some 12, none, .mov (.t 11)⟩, ⟨some 13, some (12, false), .ld true 4 (.t 1)⟩, ⟨some 14, some (12, false), .call (.c (.fn (.func 13) [] [])) [.t 13]⟩, ⟨some 15, some (12, false), .not (.t 14)⟩, ⟨some 16, none, .pick (.t 12) (.c (.bool true)) (.t 15)⟩] (regK K [8, 9, 10, 11, 12, 13, 14, 15]) (panK K) env H := aw_reg _ _
def law18_GrammarRulesOfPartition_c7 : AC := .reg [⟨some 2, none, .mov (.c (.bool true))⟩] [1, 16]
@[simp] theorem law18_GrammarRulesOfPartition_c7_eq : aw PP law18_GrammarRulesOfPartition_c7 K env H = awOps PP [⟨some 2, none, .mov (.c (.bool true))⟩] (regK K [1, 16]) (panK K) env H := aw_reg _ _
def law18_GrammarRulesOfPartition_c8 : AC := .seq law18_GrammarRulesOfPartition_c7 .ret
@[simp] theorem law18_GrammarRulesOfPartition_c8_eq : aw PP law18_GrammarRulesOfPartition_c8 K env H = aw PP law18_GrammarRulesOfPartition_c7 (seqK PP .ret K) env H := aw_seq law18_GrammarRulesOfPartition_c7 .ret
def law18_GrammarRulesOfPartition_c9 : AC := .cond (.t 16) law18_GrammarRulesOfPartition_c8 .skip
@[simp] theorem law18_GrammarRulesOfPartition_c9_eq : aw PP law18_GrammarRulesOfPartition_c9 K env H = condQ PP (Opd.ev env (.t 16)) law18_GrammarRulesOfPartition_c8 .skip K env H := aw_cond _ law18_GrammarRulesOfPartition_c8 .skip
def law18_GrammarRulesOfPartition_c10 : AC := .seq law18_GrammarRulesOfPartition_c6 law18_GrammarRulesOfPartition_c9
@[simp] theorem law18_GrammarRulesOfPartition_c10_eq : aw PP law18_GrammarRulesOfPartition_c10 K env H = aw PP law18_GrammarRulesOfPartition_c6 (seqK PP law18_GrammarRulesOfPartition_c9 K) env H := aw_seq law18_GrammarRulesOfPartition_c6 law18_GrammarRulesOfPartition_c9
def law18_GrammarRulesOfPartition_c11 : AC := .reg [⟨some 3, none, .mov (.c (.int (.i64) 0))⟩] [16]
@[simp] theorem law18_GrammarRulesOfPartition_c11_eq : aw PP law18_GrammarRulesOfPartition_c11 K env H = awOps PP [⟨some 3, none, .mov (.c (.int (.i64) 0))⟩] (regK K [16]) (panK K) env H := aw_reg _ _
def law18_GrammarRulesOfPartition_c12 : AC := .reg [⟨some 4, none, .mov (.c (.int (.i64) (-1)))⟩] []
@[simp] theorem law18_GrammarRulesOfPartition_c12_eq : aw PP law18_GrammarRulesOfPartition_c12 K env H = awOps PP [⟨some 4, none, .mov (.c (.int (.i64) (-1)))⟩] (regK K []) (panK K) env H := aw_reg _ _
def law18_GrammarRulesOfPartition_c13 : AC := .reg [⟨some 17, none, .mov (.t 4)⟩, ⟨some 18, none, .fa 1 1 (.t 1)⟩, ⟨some 19, none, .ld false 1 (.t 18)⟩, ⟨some 20, none, .lenl (.t 19)⟩, ⟨some 21, none, .bin (.leq) (.t 17) (.t 20)⟩] [17, 18, 19, 20]
@[simp] theorem law18_GrammarRulesOfPartition_c13_eq : aw PP law18_GrammarRulesOfPartition_c13 K env H = awOps PP [⟨some 17, none, .mov (.t 4)⟩, ⟨some 18, none, .fa 1 1 (.t 1)⟩, ⟨some 19, none, .ld false 1 (.t 18)⟩, ⟨some 20, none, .lenl (.t 19)⟩, ⟨some 21, none, .bin (.leq) (.t 17) (.t 20)⟩] (regK K [17, 18, 19, 20]) (panK K) env H := aw_reg _ _
def law18_GrammarRulesOfPartition_c14 : AC := .cond (.t 21) .skip (.exit 0)
@[simp] theorem law18_GrammarRulesOfPartition_c14_eq : aw PP law18_GrammarRulesOfPartition_c14 K env H = condQ PP (Opd.ev env (.t 21)) .skip (.exit 0) K env H := aw_cond _ .skip (.exit 0)
def law18_GrammarRulesOfPartition_c15 : AC := .seq law18_GrammarRulesOfPartition_c13 law18_GrammarRulesOfPartition_c14
@[simp] theorem law18_GrammarRulesOfPartition_c15_eq : aw PP law18_GrammarRulesOfPartition_c15 K env H = aw PP law18_GrammarRulesOfPartition_c13 (seqK PP law18_GrammarRulesOfPartition_c14 K) env H := aw_seq law18_GrammarRulesOfPartition_c13 law18_GrammarRulesOfPartition_c14
def law18_GrammarRulesOfPartition_c16 : AC := .reg [⟨some 24, none, .ld true 4 (.t 1)⟩, ⟨some 25, none, .mov (.t 4)⟩, ⟨some 26, none, .call (.c (.fn (.func 20) [] [])) [.t 24, .t 25]⟩, ⟨some 5, none, .mov (.t 26)⟩] [21, 24, 25, 26]
@[simp] theorem law18_GrammarRulesOfPartition_c16_eq : aw PP law18_GrammarRulesOfPartition_c16 K env H = awOps PP [⟨some 24, none, .ld true 4 (.t 1)⟩, ⟨some 25, none, .mov (.t 4)⟩, ⟨some 26, none, .call (.c (.fn (.func 20) [] [])) [.t 24, .t 25]⟩, ⟨some 5, none, .mov (.t 26)⟩] (regK K [21, 24, 25, 26]) (panK K) env H := aw_reg _ _
def law18_GrammarRulesOfPartition_c17 : AC := .reg [⟨some 6, none, .mov (.c (.int (.i64) 0))⟩] []
@[simp] theorem law18_GrammarRulesOfPartition_c17_eq : aw PP law18_GrammarRulesOfPartition_c17 K env H = awOps PP [⟨some 6, none, .mov (.c (.int (.i64) 0))⟩] (regK K []) (panK K) env H := aw_reg _ _
def law18_GrammarRulesOfPartition_c18 : AC := .reg [⟨some 27, none, .mov (.t 6)⟩, ⟨some 28, none, .mov (.t 5)⟩, ⟨some 29, none, .lenl (.t 28)⟩, ⟨some 30, none, .bin (.lss) (.t 27) (.t 29)⟩] [27, 28, 29]
@[simp] theorem law18_GrammarRulesOfPartition_c18_eq : aw PP law18_GrammarRulesOfPartition_c18 K env H = awOps PP [⟨some 27, none, .mov (.t 6)⟩, ⟨some 28, none, .mov (.t 5)⟩, ⟨some 29, none, .lenl (.t 28)⟩, ⟨some 30, none, .bin (.lss) (.t 27) (.t 29)⟩] (regK K [27, 28, 29]) (panK K) env H := aw_reg _ _
def law18_GrammarRulesOfPartition_c19 : AC := .cond (.t 30) .skip (.exit 2)
@[simp] theorem law18_GrammarRulesOfPartition_c19_eq : aw PP law18_GrammarRulesOfPartition_c19 K env H = condQ PP (Opd.ev env (.t 30)) .skip (.exit 2) K env H := aw_cond _ .skip (.exit 2)
def law18_GrammarRulesOfPartition_c20 : AC := .seq law18_GrammarRulesOfPartition_c18 law18_GrammarRulesOfPartition_c19
@[simp] theorem law18_GrammarRulesOfPartition_c20_eq : aw PP law18_GrammarRulesOfPartition_c20 K env H = aw PP law18_GrammarRulesOfPartition_c18 (seqK PP law18_GrammarRulesOfPartition_c19 K) env H := aw_seq law18_GrammarRulesOfPartition_c18 law18_GrammarRulesOfPartition_c19
def law18_GrammarRulesOfPartition_c21_ops : List (AI × List Nat) := [(⟨some 33, none, .mov (.t 5)⟩, []), (⟨some 34, none, .mov (.t 6)⟩, []), (⟨some 35, none, .ixa 1 (.t 33) (.t 34)⟩, [0, 1]), (⟨some 36, none, .ld false 1 (.t 35)⟩, [2]), (⟨some 37, none, .bin (.lss) (.t 36) (.c (.int (.i64) 0))⟩, [3]), (⟨some 38, none, .mov (.t 37)⟩, [4]), (⟨some 39, some (38, false), .mov (.t 5)⟩, [5]), (⟨some 40, some (38, false), .mov (.t 6)⟩, [5]), (⟨some 41, some (38, false), .ixa 1 (.t 39) (.t 40)⟩, [6, 7, 5]), (⟨some 42, some (38, false), .ld false 1 (.t 41)⟩, [8, 5]), (⟨some 43, some (38, false), .fa 3 3 (.t 1)⟩, [5]), (⟨some 44, some (38, false), .ld false 1 (.t 43)⟩, [10, 5]), (⟨some 45, some (38, false), .lenl (.t 44)⟩, [11, 5]), (⟨some 46, some (38, false), .bin (.geq) (.t 42) (.t 45)⟩, [9, 12, 5]), (⟨some 47, none, .pick (.t 38) (.c (.bool true)) (.t 46)⟩, [5, 13]), (⟨some 48, none, .mov (.t 47)⟩, [14, 5]), (⟨some 49, some (48, false), .fa 3 3 (.t 1)⟩, [15]), (⟨some 50, some (48, false), .ld false 1 (.t 49)⟩, [16, 15]), (⟨some 51, some (48, false), .mov (.t 5)⟩, [15]), (⟨some 52, some (48, false), .mov (.t 6)⟩, [15]), (⟨some 53, some (48, false), .ixa 1 (.t 51) (.t 52)⟩, [18, 19, 15]), (⟨some 54, some (48, false), .ld false 1 (.t 53)⟩, [20, 15]), (⟨some 55, some (48, false), .ixa 3 (.t 50) (.t 54)⟩, [17, 21, 15]), (⟨some 56, some (48, false), .fa 0 0 (.t 55)⟩, [22, 15]), (⟨some 57, some (48, false), .ld false 1 (.t 56)⟩, [23, 15]), (⟨some 58, some (48, false), .mov (.t 4)⟩, [15]), (⟨some 59, some (48, false), .bin (.neq) (.t 57) (.t 58)⟩, [24, 25, 15]), (⟨some 60, none, .pick (.t 48) (.c (.bool true)) (.t 59)⟩, [15, 26]), (⟨some 61, none, .mov (.t 60)⟩, [27, 15]), (⟨some 62, some (61, false), .mov (.t 6)⟩, [28]), (⟨some 63, some (61, false), .bin (.gtr) (.t 62) (.c (.int (.i64) 0))⟩, [29, 28]), (⟨some 64, some (61, false), .mov (.t 63)⟩, [30, 28, 28]), (⟨some 65, some (64, true), .mov (.t 5)⟩, [31]), (⟨some 66, some (64, true), .mov (.t 6)⟩, [31]), (⟨some 67, some (64, true), .ixa 1 (.t 65) (.t 66)⟩, [32, 33, 31]), (⟨some 68, some (64, true), .ld false 1 (.t 67)⟩, [34, 31]), (⟨some 69, some (64, true), .mov (.t 5)⟩, [31]), (⟨some 70, some (64, true), .mov (.t 6)⟩, [31]), (⟨some 71, some (64, true), .bin (.sub) (.t 70) (.c (.int (.i64) 1))⟩, [37, 31]), (⟨some 72, some (64, true), .ixa 1 (.t 69) (.t 71)⟩, [36, 38, 31]), (⟨some 73, some (64, true), .ld false 1 (.t 72)⟩, [39, 31]), (⟨some 74, some (64, true), .bin (.leq) (.t 68) (.t 73)⟩, [35, 40, 31]), (⟨some 75, some (61, false), .pick (.t 64) (.t 74) (.c (.bool false))⟩, [31, 41, 28]), (⟨some 76, none, .pick (.t 61) (.c (.bool true)) (.t 75)⟩, [28, 42])]
def law18_GrammarRulesOfPartition_c21 : AC := .dreg law18_GrammarRulesOfPartition_c21_ops [30, 33, 34, 35, 36, 37, 38, 39, 40, 41, 42, 43, 44, 45, 46, 47, 48, 49, 50, 51, 52, 53, 54, 55, 56, 57, 58, 59, 60, 61, 62, 63, 64, 65, 66, 67, 68, 69, 70, 71, 72, 73, 74, 75]
theorem law18_GrammarRulesOfPartition_c21_ok : lexOK law18_GrammarRulesOfPartition_c21_ops (fun i => [].contains i) = true := by kernel_rfl
theorem law18_GrammarRulesOfPartition_c21_lex (h : awLex PP (fun i => [].contains i) (regK K [30, 33, 34, 35, 36, 37, 38, 39, 40, 41, 42, 43, 44, 45, 46, 47, 48, 49, 50, 51, 52, 53, 54, 55, 56, 57, 58, 59, 60, 61, 62, 63, 64, 65, 66, 67, 68, 69, 70, 71, 72, 73, 74, 75]) (panK K) [(0, ⟨some 33, none, .mov (.t 5)⟩), (1, ⟨some 34, none, .mov (.t 6)⟩), (2, ⟨some 35, none, .ixa 1 (.t 33) (.t 34)⟩), (3, ⟨some 36, none, .ld false 1 (.t 35)⟩), (4, ⟨some 37, none, .bin (.lss) (.t 36) (.c (.int (.i64) 0))⟩), (5, ⟨some 38, none, .mov (.t 37)⟩), (6, ⟨some 39, some (38, false), .mov (.t 5)⟩), (7, ⟨some 40, some (38, false), .mov (.t 6)⟩), (8, ⟨some 41, some (38, false), .ixa 1 (.t 39) (.t 40)⟩), (9, ⟨some 42, some (38, false), .ld false 1 (.t 41)⟩), (10, ⟨some 43, some (38, false), .fa 3 3 (.t 1)⟩), (11, ⟨some 44, some (38, false), .ld false 1 (.t 43)⟩), (12, ⟨some 45, some (38, false), .lenl (.t 44)⟩), (13, ⟨some 46, some (38, false), .bin (.geq) (.t 42) (.t 45)⟩), (14, ⟨some 47, none, .pick (.t 38) (.c (.bool true)) (.t 46)⟩), (15, ⟨some 48, none, .mov (.t 47)⟩), (16, ⟨some 49, some (48, false), .fa 3 3 (.t 1)⟩), (17, ⟨some 50, some (48, false), .ld false 1 (.t 49)⟩), (18, ⟨some 51, some (48, false), .mov (.t 5)⟩), (19, ⟨some 52, some (48, false), .mov (.t 6)⟩), (20, ⟨some 53, some (48, false), .ixa 1 (.t 51) (.t 52)⟩), (21, ⟨some 54, some (48, false), .ld false 1 (.t 53)⟩), (22, ⟨some 55, some (48, false), .ixa 3 (.t 50) (.t 54)⟩), (23, ⟨some 56, some (48, false), .fa 0 0 (.t 55)⟩), (24, ⟨some 57, some (48, false), .ld false 1 (.t 56)⟩), (25, ⟨some 58, some (48, false), .mov (.t 4)⟩), (26, ⟨some 59, some (48, false), .bin (.neq) (.t 57) (.t 58)⟩), (27, ⟨some 60, none, .pick (.t 48) (.c (.bool true)) (.t 59)⟩), (28, ⟨some 61, none, .mov (.t 60)⟩), (29, ⟨some 62, some (61, false), .mov (.t 6)⟩), (30, ⟨some 63, some (61, false), .bin (.gtr) (.t 62) (.c (.int (.i64) 0))⟩), (31, ⟨some 64, some (61, false), .mov (.t 63)⟩), (32, ⟨some 65, some (64, true), .mov (.t 5)⟩), (33, ⟨some 66, some (64, true), .mov (.t 6)⟩), (34, ⟨some 67, some (64, true), .ixa 1 (.t 65) (.t 66)⟩), (35, ⟨some 68, some (64, true), .ld false 1 (.t 67)⟩), (36, ⟨some 69, some (64, true), .mov (.t 5)⟩), (37, ⟨some 70, some (64, true), .mov (.t 6)⟩), (38, ⟨some 71, some (64, true), .bin (.sub) (.t 70) (.c (.int (.i64) 1))⟩), (39, ⟨some 72, some (64, true), .ixa 1 (.t 69) (.t 71)⟩), (40, ⟨some 73, some (64, true), .ld false 1 (.t 72)⟩), (41, ⟨some 74, some (64, true), .bin (.leq) (.t 68) (.t 73)⟩), (42, ⟨some 75, some (61, false), .pick (.t 64) (.t 74) (.c (.bool false))⟩), (43, ⟨some 76, none, .pick (.t 61) (.c (.bool true)) (.t 75)⟩)] env H) : aw PP law18_GrammarRulesOfPartition_c21 K env H := aw_dreg_lex _ law18_GrammarRulesOfPartition_c21_ok h
def law18_GrammarRulesOfPartition_c22 : AC := .reg [⟨some 2, none, .mov (.c (.bool false))⟩] [1, 3, 4, 5, 6, 76]
@[simp] theorem law18_GrammarRulesOfPartition_c22_eq : aw PP law18_GrammarRulesOfPartition_c22 K env H = awOps PP [⟨some 2, none, .mov (.c (.bool false))⟩] (regK K [1, 3, 4, 5, 6, 76]) (panK K) env H := aw_reg _ _
def law18_GrammarRulesOfPartition_c23 : AC := .seq law18_GrammarRulesOfPartition_c22 .ret
@[simp] theorem law18_GrammarRulesOfPartition_c23_eq : aw PP law18_GrammarRulesOfPartition_c23 K env H = aw PP law18_GrammarRulesOfPartition_c22 (seqK PP .ret K) env H := aw_seq law18_GrammarRulesOfPartition_c22 .ret
def law18_GrammarRulesOfPartition_c24 : AC := .cond (.t 76) law18_GrammarRulesOfPartition_c23 .skip
@[simp] theorem law18_GrammarRulesOfPartition_c24_eq : aw PP law18_GrammarRulesOfPartition_c24 K env H = condQ PP (Opd.ev env (.t 76)) law18_GrammarRulesOfPartition_c23 .skip K env H := aw_cond _ law18_GrammarRulesOfPartition_c23 .skip
def law18_GrammarRulesOfPartition_c25 : AC := .seq law18_GrammarRulesOfPartition_c21 law18_GrammarRulesOfPartition_c24
@[simp] theorem law18_GrammarRulesOfPartition_c25_eq : aw PP law18_GrammarRulesOfPartition_c25 K env H = aw PP law18_GrammarRulesOfPartition_c21 (seqK PP law18_GrammarRulesOfPartition_c24 K) env H := aw_seq law18_GrammarRulesOfPartition_c21 law18_GrammarRulesOfPartition_c24
def law18_GrammarRulesOfPartition_c26 : AC := .block 3 law18_GrammarRulesOfPartition_c25
@[simp] theorem law18_GrammarRulesOfPartition_c26_eq : aw PP law18_GrammarRulesOfPartition_c26 K env H = aw PP law18_GrammarRulesOfPartition_c25 (blockK 3 K) env H := aw_block _ law18_GrammarRulesOfPartition_c25
def law18_GrammarRulesOfPartition_c27 : AC := .reg [⟨some 31, none, .mov (.t 6)⟩, ⟨some 32, none, .bin (.add) (.t 31) (.c (.int (.i64) 1))⟩, ⟨some 6, none, .mov (.t 32)⟩] [31, 32, 76]
@[simp] theorem law18_GrammarRulesOfPartition_c27_eq : aw PP law18_GrammarRulesOfPartition_c27 K env H = awOps PP [⟨some 31, none, .mov (.t 6)⟩, ⟨some 32, none, .bin (.add) (.t 31) (.c (.int (.i64) 1))⟩, ⟨some 6, none, .mov (.t 32)⟩] (regK K [31, 32, 76]) (panK K) env H := aw_reg _ _
def law18_GrammarRulesOfPartition_c28 : AC := .seq law18_GrammarRulesOfPartition_c26 law18_GrammarRulesOfPartition_c27
@[simp] theorem law18_GrammarRulesOfPartition_c28_eq : aw PP law18_GrammarRulesOfPartition_c28 K env H = aw PP law18_GrammarRulesOfPartition_c26 (seqK PP law18_GrammarRulesOfPartition_c27 K) env H := aw_seq law18_GrammarRulesOfPartition_c26 law18_GrammarRulesOfPartition_c27
def law18_GrammarRulesOfPartition_c29 : AC := .seq law18_GrammarRulesOfPartition_c20 law18_GrammarRulesOfPartition_c28
@[simp] theorem law18_GrammarRulesOfPartition_c29_eq : aw PP law18_GrammarRulesOfPartition_c29 K env H = aw PP law18_GrammarRulesOfPartition_c20 (seqK PP law18_GrammarRulesOfPartition_c28 K) env H := aw_seq law18_GrammarRulesOfPartition_c20 law18_GrammarRulesOfPartition_c28
def law18_GrammarRulesOfPartition_c30 : AC := .loop law18_GrammarRulesOfPartition_c29
def law18_GrammarRulesOfPartition_c31 : AC := .block 2 law18_GrammarRulesOfPartition_c30
@[simp] theorem law18_GrammarRulesOfPartition_c31_eq : aw PP law18_GrammarRulesOfPartition_c31 K env H = aw PP law18_GrammarRulesOfPartition_c30 (blockK 2 K) env H := aw_block _ law18_GrammarRulesOfPartition_c30
def law18_GrammarRulesOfPartition_c32 : AC := .seq law18_GrammarRulesOfPartition_c17 law18_GrammarRulesOfPartition_c31
@[simp] theorem law18_GrammarRulesOfPartition_c32_eq : aw PP law18_GrammarRulesOfPartition_c32 K env H = aw PP law18_GrammarRulesOfPartition_c17 (seqK PP law18_GrammarRulesOfPartition_c31 K) env H := aw_seq law18_GrammarRulesOfPartition_c17 law18_GrammarRulesOfPartition_c31
def law18_GrammarRulesOfPartition_c33 : AC := .reg [⟨some 77, none, .mov (.t 3)⟩, ⟨some 78, none, .mov (.t 5)⟩, ⟨some 79, none, .lenl (.t 78)⟩, ⟨some 80, none, .bin (.add) (.t 77) (.t 79)⟩, ⟨some 3, none, .mov (.t 80)⟩] [5, 6, 30, 77, 78, 79, 80]
@[simp] theorem law18_GrammarRulesOfPartition_c33_eq : aw PP law18_GrammarRulesOfPartition_c33 K env H = awOps PP [⟨some 77, none, .mov (.t 3)⟩, ⟨some 78, none, .mov (.t 5)⟩, ⟨some 79, none, .lenl (.t 78)⟩, ⟨some 80, none, .bin (.add) (.t 77) (.t 79)⟩, ⟨some 3, none, .mov (.t 80)⟩] (regK K [5, 6, 30, 77, 78, 79, 80]) (panK K) env H := aw_reg _ _
def law18_GrammarRulesOfPartition_c34 : AC := .seq law18_GrammarRulesOfPartition_c32 law18_GrammarRulesOfPartition_c33
@[simp] theorem law18_GrammarRulesOfPartition_c34_eq : aw PP law18_GrammarRulesOfPartition_c34 K env H = aw PP law18_GrammarRulesOfPartition_c32 (seqK PP law18_GrammarRulesOfPartition_c33 K) env H := aw_seq law18_GrammarRulesOfPartition_c32 law18_GrammarRulesOfPartition_c33
def law18_GrammarRulesOfPartition_c35 : AC := .seq law18_GrammarRulesOfPartition_c16 law18_GrammarRulesOfPartition_c34
@[simp] theorem law18_GrammarRulesOfPartition_c35_eq : aw PP law18_GrammarRulesOfPartition_c35 K env H = aw PP law18_GrammarRulesOfPartition_c16 (seqK PP law18_GrammarRulesOfPartition_c34 K) env H := aw_seq law18_GrammarRulesOfPartition_c16 law18_GrammarRulesOfPartition_c34
def law18_GrammarRulesOfPartition_c36 : AC := .block 1 law18_GrammarRulesOfPartition_c35
@[simp] theorem law18_GrammarRulesOfPartition_c36_eq : aw PP law18_GrammarRulesOfPartition_c36 K env H = aw PP law18_GrammarRulesOfPartition_c35 (blockK 1 K) env H := aw_block _ law18_GrammarRulesOfPartition_c35
def law18_GrammarRulesOfPartition_c37 : AC := .reg [⟨some 22, none, .mov (.t 4)⟩, ⟨some 23, none, .bin (.add) (.t 22) (.c (.int (.i64) 1))⟩, ⟨some 4, none, .mov (.t 23)⟩] [22, 23]
@[simp] theorem law18_GrammarRulesOfPartition_c37_eq : aw PP law18_GrammarRulesOfPartition_c37 K env H = awOps PP [⟨some 22, none, .mov (.t 4)⟩, ⟨some 23, none, .bin (.add) (.t 22) (.c (.int (.i64) 1))⟩, ⟨some 4, none, .mov (.t 23)⟩] (regK K [22, 23]) (panK K) env H := aw_reg _ _
def law18_GrammarRulesOfPartition_c38 : AC := .seq law18_GrammarRulesOfPartition_c36 law18_GrammarRulesOfPartition_c37
@[simp] theorem law18_GrammarRulesOfPartition_c38_eq : aw PP law18_GrammarRulesOfPartition_c38 K env H = aw PP law18_GrammarRulesOfPartition_c36 (seqK PP law18_GrammarRulesOfPartition_c37 K) env H := aw_seq law18_GrammarRulesOfPartition_c36 law18_GrammarRulesOfPartition_c37
def law18_GrammarRulesOfPartition_c39 : AC := .seq law18_GrammarRulesOfPartition_c15 law18_GrammarRulesOfPartition_c38
@[simp] theorem law18_GrammarRulesOfPartition_c39_eq : aw PP law18_GrammarRulesOfPartition_c39 K env H = aw PP law18_GrammarRulesOfPartition_c15 (seqK PP law18_GrammarRulesOfPartition_c38 K) env H := aw_seq law18_GrammarRulesOfPartition_c15 law18_GrammarRulesOfPartition_c38
def law18_GrammarRulesOfPartition_c40 : AC := .loop law18_GrammarRulesOfPartition_c39
def law18_GrammarRulesOfPartition_c41 : AC := .block 0 law18_GrammarRulesOfPartition_c40
@[simp] theorem law18_GrammarRulesOfPartition_c41_eq : aw PP law18_GrammarRulesOfPartition_c41 K env H = aw PP law18_GrammarRulesOfPartition_c40 (blockK 0 K) env H := aw_block _ law18_GrammarRulesOfPartition_c40
def law18_GrammarRulesOfPartition_c42 : AC := .seq law18_GrammarRulesOfPartition_c12 law18_GrammarRulesOfPartition_c41
@[simp] theorem law18_GrammarRulesOfPartition_c42_eq : aw PP law18_GrammarRulesOfPartition_c42 K env H = aw PP law18_GrammarRulesOfPartition_c12 (seqK PP law18_GrammarRulesOfPartition_c41 K) env H := aw_seq law18_GrammarRulesOfPartition_c12 law18_GrammarRulesOfPartition_c41
def law18_GrammarRulesOfPartition_c43 : AC := .reg [⟨some 81, none, .mov (.t 3)⟩, ⟨some 82, none, .fa 3 3 (.t 1)⟩, ⟨some 83, none, .ld false 1 (.t 82)⟩, ⟨some 84, none, .lenl (.t 83)⟩, ⟨some 85, none, .bin (.eql) (.t 81) (.t 84)⟩, ⟨some 2, none, .mov (.t 85)⟩] [1, 3, 4, 21, 81, 82, 83, 84, 85]
@[simp] theorem law18_GrammarRulesOfPartition_c43_eq : aw PP law18_GrammarRulesOfPartition_c43 K env H = awOps PP [⟨some 81, none, .mov (.t 3)⟩, ⟨some 82, none, .fa 3 3 (.t 1)⟩, ⟨some 83, none, .ld false 1 (.t 82)⟩, ⟨some 84, none, .lenl (.t 83)⟩, ⟨some 85, none, .bin (.eql) (.t 81) (.t 84)⟩, ⟨some 2, none, .mov (.t 85)⟩] (regK K [1, 3, 4, 21, 81, 82, 83, 84, 85]) (panK K) env H := aw_reg _ _
def law18_GrammarRulesOfPartition_c44 : AC := .seq law18_GrammarRulesOfPartition_c43 .ret
@[simp] theorem law18_GrammarRulesOfPartition_c44_eq : aw PP law18_GrammarRulesOfPartition_c44 K env H = aw PP law18_GrammarRulesOfPartition_c43 (seqK PP .ret K) env H := aw_seq law18_GrammarRulesOfPartition_c43 .ret
def law18_GrammarRulesOfPartition_c45 : AC := .seq law18_GrammarRulesOfPartition_c42 law18_GrammarRulesOfPartition_c44
@[simp] theorem law18_GrammarRulesOfPartition_c45_eq : aw PP law18_GrammarRulesOfPartition_c45 K env H = aw PP law18_GrammarRulesOfPartition_c42 (seqK PP law18_GrammarRulesOfPartition_c44 K) env H := aw_seq law18_GrammarRulesOfPartition_c42 law18_GrammarRulesOfPartition_c44
def law18_GrammarRulesOfPartition_c46 : AC := .seq law18_GrammarRulesOfPartition_c11 law18_GrammarRulesOfPartition_c45
@[simp] theorem law18_GrammarRulesOfPartition_c46_eq : aw PP law18_GrammarRulesOfPartition_c46 K env H = aw PP law18_GrammarRulesOfPartition_c11 (seqK PP law18_GrammarRulesOfPartition_c45 K) env H := aw_seq law18_GrammarRulesOfPartition_c11 law18_GrammarRulesOfPartition_c45
def law18_GrammarRulesOfPartition_c47 : AC := .seq law18_GrammarRulesOfPartition_c10 law18_GrammarRulesOfPartition_c46
@[simp] theorem law18_GrammarRulesOfPartition_c47_eq : aw PP law18_GrammarRulesOfPartition_c47 K env H = aw PP law18_GrammarRulesOfPartition_c10 (seqK PP law18_GrammarRulesOfPartition_c46 K) env H := aw_seq law18_GrammarRulesOfPartition_c10 law18_GrammarRulesOfPartition_c46
def law18_GrammarRulesOfPartition_c48 : AC := .seq law18_GrammarRulesOfPartition_c5 law18_GrammarRulesOfPartition_c47
@[simp] theorem law18_GrammarRulesOfPartition_c48_eq : aw PP law18_GrammarRulesOfPartition_c48 K env H = aw PP law18_GrammarRulesOfPartition_c5 (seqK PP law18_GrammarRulesOfPartition_c47 K) env H := aw_seq law18_GrammarRulesOfPartition_c5 law18_GrammarRulesOfPartition_c47
def law18_GrammarRulesOfPartition_c49 : AC := .seq law18_GrammarRulesOfPartition_c0 law18_GrammarRulesOfPartition_c48
@[simp] theorem law18_GrammarRulesOfPartition_c49_eq : aw PP law18_GrammarRulesOfPartition_c49 K env H = aw PP law18_GrammarRulesOfPartition_c0 (seqK PP law18_GrammarRulesOfPartition_c48 K) env H := aw_seq law18_GrammarRulesOfPartition_c0 law18_GrammarRulesOfPartition_c48
def law18_GrammarRulesOfPartition_ac : AC := law18_GrammarRulesOfPartition_c49
@[simp] theorem law18_GrammarRulesOfPartition_ac_eq : aw PP law18_GrammarRulesOfPartition_ac K env H = aw PP law18_GrammarRulesOfPartition_c49 K env H := Eq.trans rfl rfl
def law18_GrammarRulesOfPartition_rs : List ARV := [.tmp 2]
abbrev law18_GrammarRulesOfPartition_id : Nat := 8
theorem law18_GrammarRulesOfPartition_comp : compF PP law18_GrammarRulesOfPartition_kl law18_GrammarRulesOfPartition_ow 1 Tryd.f8 = some (law18_GrammarRulesOfPartition_ac, law18_GrammarRulesOfPartition_rs) := by kernel_rfl
theorem law18_GrammarRulesOfPartition_enter {args : List AV} {H : AHeap} {post : ARes → AHeap → Prop} (ha : args.length = 1) (h : aw PP law18_GrammarRulesOfPartition_ac (retK law18_GrammarRulesOfPartition_rs post) (argEnv 0 args) H) : ACalls PP law18_GrammarRulesOfPartition_id args H post := .enterF Tryd.func8 PP_mix law18_GrammarRulesOfPartition_comp ha h

end Go.Av
