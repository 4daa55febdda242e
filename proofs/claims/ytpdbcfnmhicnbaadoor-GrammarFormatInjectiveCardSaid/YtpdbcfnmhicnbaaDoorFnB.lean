/- Functions of the given program, compiled to the own form by program. -/
import Derived.Test.YtpdbcfnmhicnbaaDoorProg
import Derived.KernelRfl
import Derived.Test.YtpdbcfnmhicnbaaDoorAvF
import Derived.Test.YtpdbcfnmhicnbaaDoorFns1
set_option linter.unusedVariables false
set_option linter.unusedSimpArgs false
namespace Go.Av
open Go Go.Proofs
variable {K : AK} {env : Env} {H : AHeap}
/-! emendate.grammar.Valid -/
def grammar_Valid_kl : Nat → List Nat
  | 0 => [0, 2]
  | 1 => [5, 6, 7, 8, 9, 10, 11, 12, 13, 14, 15, 16, 17, 18, 19, 20, 21, 22, 23, 24, 25, 26, 27, 28, 29, 30, 31, 32, 33, 34, 35, 36, 37, 38, 39, 40, 41, 42, 43, 44, 45, 46, 47, 48, 49]
  | 2 => [1, 50]
  | 3 => [50, 51]
  | 5 => [55, 56, 57]
  | 6 => [58, 59, 60, 61, 62, 63, 64, 65, 66, 67, 68, 69, 70, 71, 72, 73, 74, 75, 76, 77, 78, 79, 80, 81, 82, 83]
  | 7 => [1, 4, 52, 53, 54, 84]
  | 8 => [4, 84, 85, 86, 87]
  | 9 => [1, 52, 53, 54, 88]
  | 10 => [88, 89]
  | 11 => [1, 52, 53, 54, 55]
  | _ => []
def grammar_Valid_ow : Nat → Nat → Bool := fun _ _ => false
def grammar_Valid_c0 : AC := .reg [⟨some 1, none, .box (.t 0) 4 25⟩, ⟨some 2, none, .mov (.c (.bool false))⟩] [0, 2]
@[simp] theorem grammar_Valid_c0_eq : aw PP grammar_Valid_c0 K env H = awOps PP [⟨some 1, none, .box (.t 0) 4 25⟩, ⟨some 2, none, .mov (.c (.bool false))⟩] (regK K [0, 2]) (panK K) env H := aw_reg _ _
def grammar_Valid_c1 : AC := .reg [⟨some 5, none, .fa 0 0 (.t 1)⟩, ⟨some 6, none, .ld false 1 (.t 5)⟩, ⟨some 7, none, .lenl (.t 6)⟩, ⟨some 8, none, .bin (.gtr) (.t 7) (.c (.int (.i64) 120))⟩, ⟨some 9, none, .mov (.t 8)⟩, ⟨some 10, some (9, false), .fa 1 1 (.t 1)⟩, ⟨some 11, some (9, false), .ld false 1 (.t 10)⟩, ⟨some 12, some (9, false), .lenl (.t 11)⟩, ⟨some 13, some (9, false), .bin (.lss) (.t 12) (.c (.int (.i64) 1))⟩, ⟨some 14, none, .pick (.t 9) (.c (.bool true)) (.t 13)⟩, ⟨some 15, none, .mov (.t 14)⟩, ⟨some 16, some (15, false), .fa 1 1 (.t 1)⟩, ⟨some 17, some (15, false), .ld false 1 (.t 16)⟩, ⟨some 18, some (15, false), .lenl (.t 17)⟩, ⟨some 19, some (15, false), .bin (.gtr) (.t 18) (.c (.int (.i64) 120))⟩, ⟨some 20, none, .pick (.t 15) (.c (.bool true)) (.t 19)⟩, ⟨some 21, none, .mov (.t 20)⟩, ⟨some 22, some (21, false), .ld true 4 (.t 1)⟩, ⟨some 23, some (21, false), .call (.c (.fn (.func 22) [] [])) [.t 22]⟩, ⟨some 24, some (21, false), .not (.t 23)⟩, ⟨some 25, none, .pick (.t 21) (.c (.bool true)) (.t 24)⟩, ⟨some 26, none, .mov (.t 25)⟩, ⟨some 27, some (26, false), .fa 2 2 (.t 1)⟩, ⟨some 28, some (26, false), .ld false 1 (.t 27)⟩, ⟨some 29, some (26, false), .bin (.lss) (.t 28) (.c (.int (.i64) 0))⟩, ⟨some 30, none, .pick (.t 26) (.c (.bool true)) (.t 29)⟩, ⟨some 31, none, .mov (.t 30)⟩, ⟨some 32, some (31, false), .fa 2 2 (.t 1)⟩, ⟨some 33, some (31, false), .ld false 1 (.t 32)⟩, ⟨some 34, some (31, false), .fa 1 1 (.t 1)⟩, ⟨some 35, some (31, false), .ld false 1 (.t 34)⟩, ⟨some 36, some (31, false), .lenl (.t 35)⟩, ⟨some 37, some (31, false), .bin (.geq) (.t 33) (.t 36)⟩, ⟨some 38, none, .pick (.t 31) (.c (.bool true)) (.t 37)⟩, ⟨some 39, none, .mov (.t 38)⟩, ⟨some 40, some (39, false), .fa 3 3 (.t 1)⟩, ⟨some 41, some (39, false), .ld false 1 (.t 40)⟩, ⟨some 42, some (39, false), .lenl (.t 41)⟩, ⟨some 43, some (39, false), .bin (.lss) (.t 42) (.c (.int (.i64) 1))⟩, ⟨some 44, none, .pick (.t 39) (.c (.bool true)) (.t 43)⟩, ⟨some 45, none, .mov (.t 44)⟩, ⟨some 46, some (45, false), .fa 3 3 (.t 1)⟩, ⟨some 47, some (45, false), .ld false 1 (.t 46)⟩, ⟨some 48, some (45, false), .lenl (.t 47)⟩, ⟨some 49, some (45, false), .bin (.gtr) (.t 48) (.c (.int (.i64) 120))⟩, ⟨some 50, none, .pick (.t 45) (.c (.bool true)) (.t 49)⟩] [5, 6, 7, 8, 9, 10, 11, 12, 13, 14, 15, 16, 17, 18, 19, 20, 21, 22, 23, 24, 25, 26, 27, 28, 29, 30, 31, 32, 33, 34, 35, 36, 37, 38, 39, 40, 41, 42, 43, 44, 45, 46, 47, 48, 49]
@[simp] theorem grammar_Valid_c1_eq : aw PP grammar_Valid_c1 K env H = awOps PP [⟨some 5, none, .fa 0 0 (.t 1)⟩, ⟨some 6, none, .ld false 1 (.t 5)⟩, ⟨some 7, none, .lenl (.t 6)⟩, ⟨some 8, none, .bin (.gtr) (.t 7) (.c (.int (.i64) 120))⟩, ⟨some 9, none, .mov (.t 8)⟩, ⟨some 10, some (9, false), .fa 1 1 (.t 1)⟩, ⟨some 11, some (9, false), .ld false 1 (.t 10)⟩, ⟨some 12, some (9, false), .lenl (.t 11)⟩, ⟨some 13, some (9, false), .bin (.lss) (.t 12) (.c (.int (.i64) 1))⟩, ⟨some 14, none, .pick (.t 9) (.c (.bool true)) (.t 13)⟩, ⟨some 15, none, .mov (.t 14)⟩, ⟨some 16, some (15, false), .fa 1 1 (.t 1)⟩, ⟨some 17, some (15, false), .ld false 1 (.t 16)⟩, ⟨some 18, some (15, false), .lenl (.t 17)⟩, ⟨some 19, some (15, false), .bin (.gtr) (.t 18) (.c (.int (.i64) 120))⟩, ⟨some 20, none, .pick (.t 15) (.c (.bool true)) (.t 19)⟩, ⟨some 21, none, .mov (.t 20)⟩, ⟨some 22, some (21, false), .ld true 4 (.t 1)⟩, ⟨some 23, some (21, false), .call (.c (.fn (.func 22) [] [])) [.t 22]⟩, ⟨some 24, some (21, false), .not (.t 23)⟩, ⟨some 25, none, .pick (.t 21) (.c (.bool true)) (.t 24)⟩, ⟨some 26, none, .mov (.t 25)⟩, ⟨some 27, some (26, false), .fa 2 2 (.t 1)⟩, ⟨some 28, some (26, false), .ld false 1 (.t 27)⟩, ⟨some 29, some (26, false), .bin (.lss) (.t 28) (.c (.int (.i64) 0))⟩, ⟨some 30, none, .pick (.t 26) (.c (.bool true)) (.t 29)⟩, ⟨some 31, none, .mov (.t 30)⟩, ⟨some 32, some (31, false), .fa 2 2 (.t 1)⟩, ⟨some 33, some (31, false), .ld false 1 (.t 32)⟩, ⟨some 34, some (31, false), .fa 1 1 (.t 1)⟩, ⟨some 35, some (31, false), .ld false 1 (.t 34)⟩, ⟨some 36, some (31, false), .lenl (.t 35)⟩, ⟨some 37, some (31, false), .bin (.geq) (.t 33) (.t 36)⟩, ⟨some 38, none, .pick (.t 31) (.c (.bool true)) (.t 37)⟩, ⟨some 39, none, .mov (.t 38)⟩, ⟨some 40, some (39, false), .fa 3 3 (.t 1)⟩, ⟨some 41, some (39, false), .ld false 1 (.t 40)⟩, ⟨some 42, some (39, false), .lenl (.t 41)⟩, ⟨some 43, some (39, false), .bin (.lss) (.t 42) (.c (.int (.i64) 1))⟩, ⟨some 44, none, .pick (.t 39) (.c (.bool true)) (.t 43)⟩, ⟨some 45, none, .mov (.t 44)⟩, ⟨some 46, some (45, false), .fa 3 3 (.t 1)⟩, ⟨some 47, some (45, false), .ld false 1 (.t 46)⟩, ⟨some 48, some (45, false), .lenl (.t 47)⟩, ⟨some 49, some (45, false), .bin (.gtr) (.t 48) (.c (.int (.i64) 120))⟩, ⟨some 50, none, .pick (.t 45) (.c (.bool true)) (.t 49)⟩] (regK K [5, 6, 7, 8, 9, 10, 11, 12, 13, 14, 15, 16, 17, 18, 19, 20, 21, 22, 23, 24, 25, 26, 27, 28, 29, 30, 31, 32, 33, 34, 35, 36, 37, 38, 39, 40, 41, 42, 43, 44, 45, 46, 47, 48, 49]) (panK K) env H := aw_reg _ _
def grammar_Valid_c2 : AC := .reg [⟨some 2, none, .mov (.c (.bool false))⟩] [1, 50]
@[simp] theorem grammar_Valid_c2_eq : aw PP grammar_Valid_c2 K env H = awOps PP [⟨some 2, none, .mov (.c (.bool false))⟩] (regK K [1, 50]) (panK K) env H := aw_reg _ _
def grammar_Valid_c3 : AC := .seq grammar_Valid_c2 .ret
@[simp] theorem grammar_Valid_c3_eq : aw PP grammar_Valid_c3 K env H = aw PP grammar_Valid_c2 (seqK PP .ret K) env H := aw_seq grammar_Valid_c2 .ret
def grammar_Valid_c4 : AC := .cond (.t 50) grammar_Valid_c3 .skip
@[simp] theorem grammar_Valid_c4_eq : aw PP grammar_Valid_c4 K env H = condQ PP (Opd.ev env (.t 50)) grammar_Valid_c3 .skip K env H := aw_cond _ grammar_Valid_c3 .skip
def grammar_Valid_c5 : AC := .seq grammar_Valid_c1 grammar_Valid_c4
@[simp] theorem grammar_Valid_c5_eq : aw PP grammar_Valid_c5 K env H = aw PP grammar_Valid_c1 (seqK PP grammar_Valid_c4 K) env H := aw_seq grammar_Valid_c1 grammar_Valid_c4
def grammar_Valid_c6 : AC := .reg [⟨some 51, none, .fa 3 3 (.t 1)⟩, ⟨some 52, none, .ld false 1 (.t 51)⟩, ⟨some 53, none, .lenl (.t 52)⟩, ⟨some 54, none, .mov (.c (.int (.i64) 0))⟩] [50, 51]
@[simp] theorem grammar_Valid_c6_eq : aw PP grammar_Valid_c6 K env H = awOps PP [⟨some 51, none, .fa 3 3 (.t 1)⟩, ⟨some 52, none, .ld false 1 (.t 51)⟩, ⟨some 53, none, .lenl (.t 52)⟩, ⟨some 54, none, .mov (.c (.int (.i64) 0))⟩] (regK K [50, 51]) (panK K) env H := aw_reg _ _
def grammar_Valid_c7 : AC := .reg [⟨some 55, none, .bin (.lss) (.t 54) (.t 53)⟩] []
@[simp] theorem grammar_Valid_c7_eq : aw PP grammar_Valid_c7 K env H = awOps PP [⟨some 55, none, .bin (.lss) (.t 54) (.t 53)⟩] (regK K []) (panK K) env H := aw_reg _ _
def grammar_Valid_c8 : AC := .cond (.t 55) .skip (.exit 0)
@[simp] theorem grammar_Valid_c8_eq : aw PP grammar_Valid_c8 K env H = condQ PP (Opd.ev env (.t 55)) .skip (.exit 0) K env H := aw_cond _ .skip (.exit 0)
def grammar_Valid_c9 : AC := .reg [⟨some 56, none, .ixa 3 (.t 52) (.t 54)⟩, ⟨some 57, none, .ld true 3 (.t 56)⟩, ⟨some 4, none, .alloc (.struct [.int (.i64) 0, .nils, .int (.i64) 0]) 36⟩, ⟨none, none, .st 3 (.t 4) (.t 57)⟩] [55, 56, 57]
@[simp] theorem grammar_Valid_c9_eq : aw PP grammar_Valid_c9 K env H = awOps PP [⟨some 56, none, .ixa 3 (.t 52) (.t 54)⟩, ⟨some 57, none, .ld true 3 (.t 56)⟩, ⟨some 4, none, .alloc (.struct [.int (.i64) 0, .nils, .int (.i64) 0]) 36⟩, ⟨none, none, .st 3 (.t 4) (.t 57)⟩] (regK K [55, 56, 57]) (panK K) env H := aw_reg _ _
def grammar_Valid_c10 : AC := .reg [⟨some 58, none, .fa 0 0 (.t 4)⟩, ⟨some 59, none, .ld false 1 (.t 58)⟩, ⟨some 60, none, .bin (.lss) (.t 59) (.c (.int (.i64) 0))⟩, ⟨some 61, none, .mov (.t 60)⟩, ⟨some 62, some (61, false), .fa 0 0 (.t 4)⟩, ⟨some 63, some (61, false), .ld false 1 (.t 62)⟩, ⟨some 64, some (61, false), .fa 1 1 (.t 1)⟩, ⟨some 65, some (61, false), .ld false 1 (.t 64)⟩, ⟨some 66, some (61, false), .lenl (.t 65)⟩, ⟨some 67, some (61, false), .bin (.geq) (.t 63) (.t 66)⟩, ⟨some 68, none, .pick (.t 61) (.c (.bool true)) (.t 67)⟩, ⟨some 69, none, .mov (.t 68)⟩, ⟨some 70, some (69, false), .fa 1 1 (.t 4)⟩, ⟨some 71, some (69, false), .ld false 1 (.t 70)⟩, ⟨some 72, some (69, false), .lenl (.t 71)⟩, ⟨some 73, some (69, false), .bin (.gtr) (.t 72) (.c (.int (.i64) 12))⟩, ⟨some 74, none, .pick (.t 69) (.c (.bool true)) (.t 73)⟩, ⟨some 75, none, .mov (.t 74)⟩, ⟨some 76, some (75, false), .fa 2 2 (.t 4)⟩, ⟨some 77, some (75, false), .ld false 1 (.t 76)⟩, ⟨some 78, some (75, false), .bin (.lss) (.t 77) (.c (.int (.i64) 0))⟩, ⟨some 79, none, .pick (.t 75) (.c (.bool true)) (.t 78)⟩, ⟨some 80, none, .mov (.t 79)⟩, ⟨some 81, some (80, false), .fa 2 2 (.t 4)⟩, ⟨some 82, some (80, false), .ld false 1 (.t 81)⟩, ⟨some 83, some (80, false), .bin (.gtr) (.t 82) (.c (.int (.i64) 1000))⟩, ⟨some 84, none, .pick (.t 80) (.c (.bool true)) (.t 83)⟩] [58, 59, 60, 61, 62, 63, 64, 65, 66, 67, 68, 69, 70, 71, 72, 73, 74, 75, 76, 77, 78, 79, 80, 81, 82, 83]
@[simp] theorem grammar_Valid_c10_eq : aw PP grammar_Valid_c10 K env H = awOps PP [⟨some 58, none, .fa 0 0 (.t 4)⟩, ⟨some 59, none, .ld false 1 (.t 58)⟩, ⟨some 60, none, .bin (.lss) (.t 59) (.c (.int (.i64) 0))⟩, ⟨some 61, none, .mov (.t 60)⟩, ⟨some 62, some (61, false), .fa 0 0 (.t 4)⟩, ⟨some 63, some (61, false), .ld false 1 (.t 62)⟩, ⟨some 64, some (61, false), .fa 1 1 (.t 1)⟩, ⟨some 65, some (61, false), .ld false 1 (.t 64)⟩, ⟨some 66, some (61, false), .lenl (.t 65)⟩, ⟨some 67, some (61, false), .bin (.geq) (.t 63) (.t 66)⟩, ⟨some 68, none, .pick (.t 61) (.c (.bool true)) (.t 67)⟩, ⟨some 69, none, .mov (.t 68)⟩, ⟨some 70, some (69, false), .fa 1 1 (.t 4)⟩, ⟨some 71, some (69, false), .ld false 1 (.t 70)⟩, ⟨some 72, some (69, false), .lenl (.t 71)⟩, ⟨some 73, some (69, false), .bin (.gtr) (.t 72) (.c (.int (.i64) 12))⟩, ⟨some 74, none, .pick (.t 69) (.c (.bool true)) (.t 73)⟩, ⟨some 75, none, .mov (.t 74)⟩, ⟨some 76, some (75, false), .fa 2 2 (.t 4)⟩, ⟨some 77, some (75, false), .ld false 1 (.t 76)⟩, ⟨some 78, some (75, false), .bin (.lss) (.t 77) (.c (.int (.i64) 0))⟩, ⟨some 79, none, .pick (.t 75) (.c (.bool true)) (.t 78)⟩, ⟨some 80, none, .mov (.t 79)⟩, ⟨some 81, some (80, false), .fa 2 2 (.t 4)⟩, ⟨some 82, some (80, false), .ld false 1 (.t 81)⟩, ⟨some 83, some (80, false), .bin (.gtr) (.t 82) (.c (.int (.i64) 1000))⟩, ⟨some 84, none, .pick (.t 80) (.c (.bool true)) (.t 83)⟩] (regK K [58, 59, 60, 61, 62, 63, 64, 65, 66, 67, 68, 69, 70, 71, 72, 73, 74, 75, 76, 77, 78, 79, 80, 81, 82, 83]) (panK K) env H := aw_reg _ _
def grammar_Valid_c11 : AC := .reg [⟨some 2, none, .mov (.c (.bool false))⟩] [1, 4, 52, 53, 54, 84]
@[simp] theorem grammar_Valid_c11_eq : aw PP grammar_Valid_c11 K env H = awOps PP [⟨some 2, none, .mov (.c (.bool false))⟩] (regK K [1, 4, 52, 53, 54, 84]) (panK K) env H := aw_reg _ _
def grammar_Valid_c12 : AC := .seq grammar_Valid_c11 .ret
@[simp] theorem grammar_Valid_c12_eq : aw PP grammar_Valid_c12 K env H = aw PP grammar_Valid_c11 (seqK PP .ret K) env H := aw_seq grammar_Valid_c11 .ret
def grammar_Valid_c13 : AC := .cond (.t 84) grammar_Valid_c12 .skip
@[simp] theorem grammar_Valid_c13_eq : aw PP grammar_Valid_c13 K env H = condQ PP (Opd.ev env (.t 84)) grammar_Valid_c12 .skip K env H := aw_cond _ grammar_Valid_c12 .skip
def grammar_Valid_c14 : AC := .seq grammar_Valid_c10 grammar_Valid_c13
@[simp] theorem grammar_Valid_c14_eq : aw PP grammar_Valid_c14 K env H = aw PP grammar_Valid_c10 (seqK PP grammar_Valid_c13 K) env H := aw_seq grammar_Valid_c10 grammar_Valid_c13
def grammar_Valid_c15 : AC := .reg [⟨some 85, none, .fa 1 1 (.t 4)⟩, ⟨some 86, none, .ld false 1 (.t 85)⟩, ⟨some 87, none, .mkfn (.func 24) [] [.t 1]⟩, ⟨some 88, none, .call (.c (.fn (.func 23) [] [])) [.t 86, .t 87]⟩] [4, 84, 85, 86, 87]
@[simp] theorem grammar_Valid_c15_eq : aw PP grammar_Valid_c15 K env H = awOps PP [⟨some 85, none, .fa 1 1 (.t 4)⟩, ⟨some 86, none, .ld false 1 (.t 85)⟩, ⟨some 87, none, .mkfn (.func 24) [] [.t 1]⟩, ⟨some 88, none, .call (.c (.fn (.func 23) [] [])) [.t 86, .t 87]⟩] (regK K [4, 84, 85, 86, 87]) (panK K) env H := aw_reg _ _
def grammar_Valid_c16 : AC := .reg [⟨some 2, none, .mov (.c (.bool false))⟩] [1, 52, 53, 54, 88]
@[simp] theorem grammar_Valid_c16_eq : aw PP grammar_Valid_c16 K env H = awOps PP [⟨some 2, none, .mov (.c (.bool false))⟩] (regK K [1, 52, 53, 54, 88]) (panK K) env H := aw_reg _ _
def grammar_Valid_c17 : AC := .seq grammar_Valid_c16 .ret
@[simp] theorem grammar_Valid_c17_eq : aw PP grammar_Valid_c17 K env H = aw PP grammar_Valid_c16 (seqK PP .ret K) env H := aw_seq grammar_Valid_c16 .ret
def grammar_Valid_c18 : AC := .cond (.t 88) grammar_Valid_c17 .skip
@[simp] theorem grammar_Valid_c18_eq : aw PP grammar_Valid_c18 K env H = condQ PP (Opd.ev env (.t 88)) grammar_Valid_c17 .skip K env H := aw_cond _ grammar_Valid_c17 .skip
def grammar_Valid_c19 : AC := .seq grammar_Valid_c15 grammar_Valid_c18
@[simp] theorem grammar_Valid_c19_eq : aw PP grammar_Valid_c19 K env H = aw PP grammar_Valid_c15 (seqK PP grammar_Valid_c18 K) env H := aw_seq grammar_Valid_c15 grammar_Valid_c18
def grammar_Valid_c20 : AC := .seq grammar_Valid_c14 grammar_Valid_c19
@[simp] theorem grammar_Valid_c20_eq : aw PP grammar_Valid_c20 K env H = aw PP grammar_Valid_c14 (seqK PP grammar_Valid_c19 K) env H := aw_seq grammar_Valid_c14 grammar_Valid_c19
def grammar_Valid_c21 : AC := .seq grammar_Valid_c9 grammar_Valid_c20
@[simp] theorem grammar_Valid_c21_eq : aw PP grammar_Valid_c21 K env H = aw PP grammar_Valid_c9 (seqK PP grammar_Valid_c20 K) env H := aw_seq grammar_Valid_c9 grammar_Valid_c20
def grammar_Valid_c22 : AC := .block 1 grammar_Valid_c21
@[simp] theorem grammar_Valid_c22_eq : aw PP grammar_Valid_c22 K env H = aw PP grammar_Valid_c21 (blockK 1 K) env H := aw_block _ grammar_Valid_c21
def grammar_Valid_c23 : AC := .reg [⟨some 89, none, .bin (.add) (.t 54) (.c (.int (.i64) 1))⟩, ⟨some 54, none, .mov (.t 89)⟩] [88, 89]
@[simp] theorem grammar_Valid_c23_eq : aw PP grammar_Valid_c23 K env H = awOps PP [⟨some 89, none, .bin (.add) (.t 54) (.c (.int (.i64) 1))⟩, ⟨some 54, none, .mov (.t 89)⟩] (regK K [88, 89]) (panK K) env H := aw_reg _ _
def grammar_Valid_c24 : AC := .seq grammar_Valid_c22 grammar_Valid_c23
@[simp] theorem grammar_Valid_c24_eq : aw PP grammar_Valid_c24 K env H = aw PP grammar_Valid_c22 (seqK PP grammar_Valid_c23 K) env H := aw_seq grammar_Valid_c22 grammar_Valid_c23
def grammar_Valid_c25 : AC := .seq grammar_Valid_c8 grammar_Valid_c24
@[simp] theorem grammar_Valid_c25_eq : aw PP grammar_Valid_c25 K env H = aw PP grammar_Valid_c8 (seqK PP grammar_Valid_c24 K) env H := aw_seq grammar_Valid_c8 grammar_Valid_c24
def grammar_Valid_c26 : AC := .seq grammar_Valid_c7 grammar_Valid_c25
@[simp] theorem grammar_Valid_c26_eq : aw PP grammar_Valid_c26 K env H = aw PP grammar_Valid_c7 (seqK PP grammar_Valid_c25 K) env H := aw_seq grammar_Valid_c7 grammar_Valid_c25
def grammar_Valid_c27 : AC := .loop grammar_Valid_c26
def grammar_Valid_c28 : AC := .block 0 grammar_Valid_c27
@[simp] theorem grammar_Valid_c28_eq : aw PP grammar_Valid_c28 K env H = aw PP grammar_Valid_c27 (blockK 0 K) env H := aw_block _ grammar_Valid_c27
def grammar_Valid_c29 : AC := .seq grammar_Valid_c6 grammar_Valid_c28
@[simp] theorem grammar_Valid_c29_eq : aw PP grammar_Valid_c29 K env H = aw PP grammar_Valid_c6 (seqK PP grammar_Valid_c28 K) env H := aw_seq grammar_Valid_c6 grammar_Valid_c28
def grammar_Valid_c30 : AC := .reg [⟨some 2, none, .mov (.c (.bool true))⟩] [1, 52, 53, 54, 55]
@[simp] theorem grammar_Valid_c30_eq : aw PP grammar_Valid_c30 K env H = awOps PP [⟨some 2, none, .mov (.c (.bool true))⟩] (regK K [1, 52, 53, 54, 55]) (panK K) env H := aw_reg _ _
def grammar_Valid_c31 : AC := .seq grammar_Valid_c30 .ret
@[simp] theorem grammar_Valid_c31_eq : aw PP grammar_Valid_c31 K env H = aw PP grammar_Valid_c30 (seqK PP .ret K) env H := aw_seq grammar_Valid_c30 .ret
def grammar_Valid_c32 : AC := .seq grammar_Valid_c29 grammar_Valid_c31
@[simp] theorem grammar_Valid_c32_eq : aw PP grammar_Valid_c32 K env H = aw PP grammar_Valid_c29 (seqK PP grammar_Valid_c31 K) env H := aw_seq grammar_Valid_c29 grammar_Valid_c31
def grammar_Valid_c33 : AC := .seq grammar_Valid_c5 grammar_Valid_c32
@[simp] theorem grammar_Valid_c33_eq : aw PP grammar_Valid_c33 K env H = aw PP grammar_Valid_c5 (seqK PP grammar_Valid_c32 K) env H := aw_seq grammar_Valid_c5 grammar_Valid_c32
def grammar_Valid_c34 : AC := .seq grammar_Valid_c0 grammar_Valid_c33
@[simp] theorem grammar_Valid_c34_eq : aw PP grammar_Valid_c34 K env H = aw PP grammar_Valid_c0 (seqK PP grammar_Valid_c33 K) env H := aw_seq grammar_Valid_c0 grammar_Valid_c33
def grammar_Valid_ac : AC := grammar_Valid_c34
@[simp] theorem grammar_Valid_ac_eq : aw PP grammar_Valid_ac K env H = aw PP grammar_Valid_c34 K env H := Eq.trans rfl rfl
def grammar_Valid_rs : List ARV := [.tmp 2]
abbrev grammar_Valid_id : Nat := 12
theorem grammar_Valid_comp : compF PP grammar_Valid_kl grammar_Valid_ow 1 Tryd.f12 = some (grammar_Valid_ac, grammar_Valid_rs) := by kernel_rfl
theorem grammar_Valid_enter {args : List AV} {H : AHeap} {post : ARes → AHeap → Prop} (ha : args.length = 1) (h : aw PP grammar_Valid_ac (retK grammar_Valid_rs post) (argEnv 0 args) H) : ACalls PP grammar_Valid_id args H post := .enterF Tryd.func12 PP_mix grammar_Valid_comp ha h

/-! emendate.emendateref18.Valid -/
def ref18_Valid_kl : Nat → List Nat
  | 0 => [0, 2]
  | 1 => [6, 7, 8, 9, 10, 11, 12, 13, 14, 15, 16, 17, 18, 19, 20, 21, 22, 23, 24, 25, 26, 27, 28, 29, 30, 31, 32]
  | 2 => [1, 33]
  | 3 => [33, 34, 35, 36, 37, 38, 39, 40, 41, 42, 43, 44, 45, 46, 47, 48, 49, 50, 51]
  | 4 => [1, 52]
  | 5 => [52]
  | 6 => [53, 54, 55, 56]
  | 7 => [4, 5, 58, 59, 96]
  | 8 => [57, 60, 61, 62, 63, 64]
  | 9 => [65, 66, 67, 68, 69, 70, 71, 72, 73, 74, 75, 76, 77, 78, 79, 80, 81, 82, 83, 84, 85, 86, 87, 88, 89, 90]
  | 10 => [1, 3, 4, 91]
  | 11 => [91]
  | 12 => [92, 93, 94, 95]
  | 13 => [97, 98, 119]
  | 14 => [96, 99, 100, 101, 102, 103, 104, 105, 106, 107, 108, 109, 110, 111, 112, 113, 114, 115, 116, 117, 118]
  | 15 => [1, 3, 4, 5, 119]
  | 16 => [1, 3, 57]
  | _ => []
def ref18_Valid_ow : Nat → Nat → Bool := fun _ _ => false
def ref18_Valid_c0 : AC := .reg [⟨some 1, none, .box (.t 0) 4 25⟩, ⟨some 2, none, .mov (.c (.bool false))⟩] [0, 2]
@[simp] theorem ref18_Valid_c0_eq : aw PP ref18_Valid_c0 K env H = awOps PP [⟨some 1, none, .box (.t 0) 4 25⟩, ⟨some 2, none, .mov (.c (.bool false))⟩] (regK K [0, 2]) (panK K) env H := aw_reg _ _
def ref18_Valid_c1 : AC := .reg [⟨some 6, none, .fa 0 0 (.t 1)⟩, ⟨some 7, none, .ld false 1 (.t 6)⟩, ⟨some 8, none, .lenl (.t 7)⟩, ⟨some 9, none, .bin (.gtr) (.t 8) (.c (.int (.i64) 120))⟩, ⟨some 10, none, .mov (.t 9)⟩, ⟨some 11, some (10, false), .fa 1 1 (.t 1)⟩, ⟨some 12, some (10, false), .ld false 1 (.t 11)⟩, ⟨some 13, some (10, false), .lenl (.t 12)⟩, ⟨some 14, some (10, false), .bin (.lss) (.t 13) (.c (.int (.i64) 1))⟩, ⟨some 15, none, .pick (.t 10) (.c (.bool true)) (.t 14)⟩, ⟨some 16, none, .mov (.t 15)⟩, ⟨some 17, some (16, false), .fa 1 1 (.t 1)⟩, ⟨some 18, some (16, false), .ld false 1 (.t 17)⟩, ⟨some 19, some (16, false), .lenl (.t 18)⟩, ⟨some 20, some (16, false), .bin (.gtr) (.t 19) (.c (.int (.i64) 120))⟩, ⟨some 21, none, .pick (.t 16) (.c (.bool true)) (.t 20)⟩, ⟨some 22, none, .mov (.t 21)⟩, ⟨some 23, some (22, false), .fa 3 3 (.t 1)⟩, ⟨some 24, some (22, false), .ld false 1 (.t 23)⟩, ⟨some 25, some (22, false), .lenl (.t 24)⟩, ⟨some 26, some (22, false), .bin (.lss) (.t 25) (.c (.int (.i64) 1))⟩, ⟨some 27, none, .pick (.t 22) (.c (.bool true)) (.t 26)⟩, ⟨some 28, none, .mov (.t 27)⟩, ⟨some 29, some (28, false), .fa 3 3 (.t 1)⟩, ⟨some 30, some (28, false), .ld false 1 (.t 29)⟩, ⟨some 31, some (28, false), .lenl (.t 30)⟩, ⟨some 32, some (28, false), .bin (.gtr) (.t 31) (.c (.int (.i64) 120))⟩, ⟨some 33, none, .pick (.t 28) (.c (.bool true)) (.t 32)⟩] [6, 7, 8, 9, 10, 11, 12, 13, 14, 15, 16, 17, 18, 19, 20, 21, 22, 23, 24, 25, 26, 27, 28, 29, 30, 31, 32]
@[simp] theorem ref18_Valid_c1_eq : aw PP ref18_Valid_c1 K env H = awOps PP [⟨some 6, none, .fa 0 0 (.t 1)⟩, ⟨some 7, none, .ld false 1 (.t 6)⟩, ⟨some 8, none, .lenl (.t 7)⟩, ⟨some 9, none, .bin (.gtr) (.t 8) (.c (.int (.i64) 120))⟩, ⟨some 10, none, .mov (.t 9)⟩, ⟨some 11, some (10, false), .fa 1 1 (.t 1)⟩, ⟨some 12, some (10, false), .ld false 1 (.t 11)⟩, ⟨some 13, some (10, false), .lenl (.t 12)⟩, ⟨some 14, some (10, false), .bin (.lss) (.t 13) (.c (.int (.i64) 1))⟩, ⟨some 15, none, .pick (.t 10) (.c (.bool true)) (.t 14)⟩, ⟨some 16, none, .mov (.t 15)⟩, ⟨some 17, some (16, false), .fa 1 1 (.t 1)⟩, ⟨some 18, some (16, false), .ld false 1 (.t 17)⟩, ⟨some 19, some (16, false), .lenl (.t 18)⟩, ⟨some 20, some (16, false), .bin (.gtr) (.t 19) (.c (.int (.i64) 120))⟩, ⟨some 21, none, .pick (.t 16) (.c (.bool true)) (.t 20)⟩, ⟨some 22, none, .mov (.t 21)⟩, ⟨some 23, some (22, false), .fa 3 3 (.t 1)⟩, ⟨some 24, some (22, false), .ld false 1 (.t 23)⟩, ⟨some 25, some (22, false), .lenl (.t 24)⟩, ⟨some 26, some (22, false), .bin (.lss) (.t 25) (.c (.int (.i64) 1))⟩, ⟨some 27, none, .pick (.t 22) (.c (.bool true)) (.t 26)⟩, ⟨some 28, none, .mov (.t 27)⟩, ⟨some 29, some (28, false), .fa 3 3 (.t 1)⟩, ⟨some 30, some (28, false), .ld false 1 (.t 29)⟩, ⟨some 31, some (28, false), .lenl (.t 30)⟩, ⟨some 32, some (28, false), .bin (.gtr) (.t 31) (.c (.int (.i64) 120))⟩, ⟨some 33, none, .pick (.t 28) (.c (.bool true)) (.t 32)⟩] (regK K [6, 7, 8, 9, 10, 11, 12, 13, 14, 15, 16, 17, 18, 19, 20, 21, 22, 23, 24, 25, 26, 27, 28, 29, 30, 31, 32]) (panK K) env H := aw_reg _ _
def ref18_Valid_c2 : AC := .reg [⟨some 2, none, .mov (.c (.bool false))⟩] [1, 33]
@[simp] theorem ref18_Valid_c2_eq : aw PP ref18_Valid_c2 K env H = awOps PP [⟨some 2, none, .mov (.c (.bool false))⟩] (regK K [1, 33]) (panK K) env H := aw_reg _ _
def ref18_Valid_c3 : AC := .seq ref18_Valid_c2 .ret
@[simp] theorem ref18_Valid_c3_eq : aw PP ref18_Valid_c3 K env H = aw PP ref18_Valid_c2 (seqK PP .ret K) env H := aw_seq ref18_Valid_c2 .ret
def ref18_Valid_c4 : AC := .cond (.t 33) ref18_Valid_c3 .skip
@[simp] theorem ref18_Valid_c4_eq : aw PP ref18_Valid_c4 K env H = condQ PP (Opd.ev env (.t 33)) ref18_Valid_c3 .skip K env H := aw_cond _ ref18_Valid_c3 .skip
def ref18_Valid_c5 : AC := .seq ref18_Valid_c1 ref18_Valid_c4
@[simp] theorem ref18_Valid_c5_eq : aw PP ref18_Valid_c5 K env H = aw PP ref18_Valid_c1 (seqK PP ref18_Valid_c4 K) env H := aw_seq ref18_Valid_c1 ref18_Valid_c4
def ref18_Valid_c6 : AC := .reg [⟨some 34, none, .fa 2 2 (.t 1)⟩, ⟨some 35, none, .ld false 1 (.t 34)⟩, ⟨some 36, none, .bin (.lss) (.t 35) (.c (.int (.i64) 0))⟩, ⟨some 37, none, .mov (.t 36)⟩, ⟨some 38, some (37, false), .fa 2 2 (.t 1)⟩, ⟨some 39, some (37, false), .ld false 1 (.t 38)⟩, ⟨some 40, some (37, false), .fa 1 1 (.t 1)⟩, ⟨some 41, some (37, false), .ld false 1 (.t 40)⟩, ⟨some 42, some (37, false), .lenl (.t 41)⟩, ⟨some 43, some (37, false), .bin (.geq) (.t 39) (.t 42)⟩, ⟨some 44, none, .pick (.t 37) (.c (.bool true)) (.t 43)⟩, ⟨some 45, none, .mov (.t 44)⟩, ⟨some 46, some (45, false), .fa 0 0 (.t 1)⟩, ⟨some 47, some (45, false), .ld false 1 (.t 46)⟩, ⟨some 48, some (45, false), .fa 1 1 (.t 1)⟩, ⟨some 49, some (45, false), .ld false 1 (.t 48)⟩, ⟨some 50, some (45, false), .call (.c (.fn (.func 25) [] [])) [.t 47, .t 49]⟩, ⟨some 51, some (45, false), .not (.t 50)⟩, ⟨some 52, none, .pick (.t 45) (.c (.bool true)) (.t 51)⟩] [33, 34, 35, 36, 37, 38, 39, 40, 41, 42, 43, 44, 45, 46, 47, 48, 49, 50, 51]
@[simp] theorem ref18_Valid_c6_eq : aw PP ref18_Valid_c6 K env H = awOps PP [⟨some 34, none, .fa 2 2 (.t 1)⟩, ⟨some 35, none, .ld false 1 (.t 34)⟩, ⟨some 36, none, .bin (.lss) (.t 35) (.c (.int (.i64) 0))⟩, ⟨some 37, none, .mov (.t 36)⟩, ⟨some 38, some (37, false), .fa 2 2 (.t 1)⟩, ⟨some 39, some (37, false), .ld false 1 (.t 38)⟩, ⟨some 40, some (37, false), .fa 1 1 (.t 1)⟩, ⟨some 41, some (37, false), .ld false 1 (.t 40)⟩, ⟨some 42, some (37, false), .lenl (.t 41)⟩, ⟨some 43, some (37, false), .bin (.geq) (.t 39) (.t 42)⟩, ⟨some 44, none, .pick (.t 37) (.c (.bool true)) (.t 43)⟩, ⟨some 45, none, .mov (.t 44)⟩, ⟨some 46, some (45, false), .fa 0 0 (.t 1)⟩, ⟨some 47, some (45, false), .ld false 1 (.t 46)⟩, ⟨some 48, some (45, false), .fa 1 1 (.t 1)⟩, ⟨some 49, some (45, false), .ld false 1 (.t 48)⟩, ⟨some 50, some (45, false), .call (.c (.fn (.func 25) [] [])) [.t 47, .t 49]⟩, ⟨some 51, some (45, false), .not (.t 50)⟩, ⟨some 52, none, .pick (.t 45) (.c (.bool true)) (.t 51)⟩] (regK K [33, 34, 35, 36, 37, 38, 39, 40, 41, 42, 43, 44, 45, 46, 47, 48, 49, 50, 51]) (panK K) env H := aw_reg _ _
def ref18_Valid_c7 : AC := .reg [⟨some 2, none, .mov (.c (.bool false))⟩] [1, 52]
@[simp] theorem ref18_Valid_c7_eq : aw PP ref18_Valid_c7 K env H = awOps PP [⟨some 2, none, .mov (.c (.bool false))⟩] (regK K [1, 52]) (panK K) env H := aw_reg _ _
def ref18_Valid_c8 : AC := .seq ref18_Valid_c7 .ret
@[simp] theorem ref18_Valid_c8_eq : aw PP ref18_Valid_c8 K env H = aw PP ref18_Valid_c7 (seqK PP .ret K) env H := aw_seq ref18_Valid_c7 .ret
def ref18_Valid_c9 : AC := .cond (.t 52) ref18_Valid_c8 .skip
@[simp] theorem ref18_Valid_c9_eq : aw PP ref18_Valid_c9 K env H = condQ PP (Opd.ev env (.t 52)) ref18_Valid_c8 .skip K env H := aw_cond _ ref18_Valid_c8 .skip
def ref18_Valid_c10 : AC := .seq ref18_Valid_c6 ref18_Valid_c9
@[simp] theorem ref18_Valid_c10_eq : aw PP ref18_Valid_c10 K env H = aw PP ref18_Valid_c6 (seqK PP ref18_Valid_c9 K) env H := aw_seq ref18_Valid_c6 ref18_Valid_c9
def ref18_Valid_c11 : AC := .reg [⟨some 3, none, .mov (.c (.int (.i64) 0))⟩] [52]
@[simp] theorem ref18_Valid_c11_eq : aw PP ref18_Valid_c11 K env H = awOps PP [⟨some 3, none, .mov (.c (.int (.i64) 0))⟩] (regK K [52]) (panK K) env H := aw_reg _ _
def ref18_Valid_c12 : AC := .reg [⟨some 53, none, .mov (.t 3)⟩, ⟨some 54, none, .fa 3 3 (.t 1)⟩, ⟨some 55, none, .ld false 1 (.t 54)⟩, ⟨some 56, none, .lenl (.t 55)⟩, ⟨some 57, none, .bin (.lss) (.t 53) (.t 56)⟩] [53, 54, 55, 56]
@[simp] theorem ref18_Valid_c12_eq : aw PP ref18_Valid_c12 K env H = awOps PP [⟨some 53, none, .mov (.t 3)⟩, ⟨some 54, none, .fa 3 3 (.t 1)⟩, ⟨some 55, none, .ld false 1 (.t 54)⟩, ⟨some 56, none, .lenl (.t 55)⟩, ⟨some 57, none, .bin (.lss) (.t 53) (.t 56)⟩] (regK K [53, 54, 55, 56]) (panK K) env H := aw_reg _ _
def ref18_Valid_c13 : AC := .cond (.t 57) .skip (.exit 0)
@[simp] theorem ref18_Valid_c13_eq : aw PP ref18_Valid_c13 K env H = condQ PP (Opd.ev env (.t 57)) .skip (.exit 0) K env H := aw_cond _ .skip (.exit 0)
def ref18_Valid_c14 : AC := .seq ref18_Valid_c12 ref18_Valid_c13
@[simp] theorem ref18_Valid_c14_eq : aw PP ref18_Valid_c14 K env H = aw PP ref18_Valid_c12 (seqK PP ref18_Valid_c13 K) env H := aw_seq ref18_Valid_c12 ref18_Valid_c13
def ref18_Valid_c15 : AC := .reg [⟨some 60, none, .fa 3 3 (.t 1)⟩, ⟨some 61, none, .ld false 1 (.t 60)⟩, ⟨some 62, none, .mov (.t 3)⟩, ⟨some 63, none, .ixa 3 (.t 61) (.t 62)⟩, ⟨some 64, none, .ld true 3 (.t 63)⟩, ⟨some 4, none, .alloc (.struct [.int (.i64) 0, .nils, .int (.i64) 0]) 36⟩, ⟨none, none, .st 3 (.t 4) (.t 64)⟩] [57, 60, 61, 62, 63, 64]
@[simp] theorem ref18_Valid_c15_eq : aw PP ref18_Valid_c15 K env H = awOps PP [⟨some 60, none, .fa 3 3 (.t 1)⟩, ⟨some 61, none, .ld false 1 (.t 60)⟩, ⟨some 62, none, .mov (.t 3)⟩, ⟨some 63, none, .ixa 3 (.t 61) (.t 62)⟩, ⟨some 64, none, .ld true 3 (.t 63)⟩, ⟨some 4, none, .alloc (.struct [.int (.i64) 0, .nils, .int (.i64) 0]) 36⟩, ⟨none, none, .st 3 (.t 4) (.t 64)⟩] (regK K [57, 60, 61, 62, 63, 64]) (panK K) env H := aw_reg _ _
def ref18_Valid_c16 : AC := .reg [⟨some 65, none, .fa 0 0 (.t 4)⟩, ⟨some 66, none, .ld false 1 (.t 65)⟩, ⟨some 67, none, .bin (.lss) (.t 66) (.c (.int (.i64) 0))⟩, ⟨some 68, none, .mov (.t 67)⟩, ⟨some 69, some (68, false), .fa 0 0 (.t 4)⟩, ⟨some 70, some (68, false), .ld false 1 (.t 69)⟩, ⟨some 71, some (68, false), .fa 1 1 (.t 1)⟩, ⟨some 72, some (68, false), .ld false 1 (.t 71)⟩, ⟨some 73, some (68, false), .lenl (.t 72)⟩, ⟨some 74, some (68, false), .bin (.geq) (.t 70) (.t 73)⟩, ⟨some 75, none, .pick (.t 68) (.c (.bool true)) (.t 74)⟩, ⟨some 76, none, .mov (.t 75)⟩, ⟨some 77, some (76, false), .fa 1 1 (.t 4)⟩, ⟨some 78, some (76, false), .ld false 1 (.t 77)⟩, ⟨some 79, some (76, false), .lenl (.t 78)⟩, ⟨some 80, some (76, false), .bin (.gtr) (.t 79) (.c (.int (.i64) 12))⟩, ⟨some 81, none, .pick (.t 76) (.c (.bool true)) (.t 80)⟩, ⟨some 82, none, .mov (.t 81)⟩, ⟨some 83, some (82, false), .fa 2 2 (.t 4)⟩, ⟨some 84, some (82, false), .ld false 1 (.t 83)⟩, ⟨some 85, some (82, false), .bin (.lss) (.t 84) (.c (.int (.i64) 0))⟩, ⟨some 86, none, .pick (.t 82) (.c (.bool true)) (.t 85)⟩, ⟨some 87, none, .mov (.t 86)⟩, ⟨some 88, some (87, false), .fa 2 2 (.t 4)⟩, ⟨some 89, some (87, false), .ld false 1 (.t 88)⟩, ⟨some 90, some (87, false), .bin (.gtr) (.t 89) (.c (.int (.i64) 1000))⟩, ⟨some 91, none, .pick (.t 87) (.c (.bool true)) (.t 90)⟩] [65, 66, 67, 68, 69, 70, 71, 72, 73, 74, 75, 76, 77, 78, 79, 80, 81, 82, 83, 84, 85, 86, 87, 88, 89, 90]
@[simp] theorem ref18_Valid_c16_eq : aw PP ref18_Valid_c16 K env H = awOps PP [⟨some 65, none, .fa 0 0 (.t 4)⟩, ⟨some 66, none, .ld false 1 (.t 65)⟩, ⟨some 67, none, .bin (.lss) (.t 66) (.c (.int (.i64) 0))⟩, ⟨some 68, none, .mov (.t 67)⟩, ⟨some 69, some (68, false), .fa 0 0 (.t 4)⟩, ⟨some 70, some (68, false), .ld false 1 (.t 69)⟩, ⟨some 71, some (68, false), .fa 1 1 (.t 1)⟩, ⟨some 72, some (68, false), .ld false 1 (.t 71)⟩, ⟨some 73, some (68, false), .lenl (.t 72)⟩, ⟨some 74, some (68, false), .bin (.geq) (.t 70) (.t 73)⟩, ⟨some 75, none, .pick (.t 68) (.c (.bool true)) (.t 74)⟩, ⟨some 76, none, .mov (.t 75)⟩, ⟨some 77, some (76, false), .fa 1 1 (.t 4)⟩, ⟨some 78, some (76, false), .ld false 1 (.t 77)⟩, ⟨some 79, some (76, false), .lenl (.t 78)⟩, ⟨some 80, some (76, false), .bin (.gtr) (.t 79) (.c (.int (.i64) 12))⟩, ⟨some 81, none, .pick (.t 76) (.c (.bool true)) (.t 80)⟩, ⟨some 82, none, .mov (.t 81)⟩, ⟨some 83, some (82, false), .fa 2 2 (.t 4)⟩, ⟨some 84, some (82, false), .ld false 1 (.t 83)⟩, ⟨some 85, some (82, false), .bin (.lss) (.t 84) (.c (.int (.i64) 0))⟩, ⟨some 86, none, .pick (.t 82) (.c (.bool true)) (.t 85)⟩, ⟨some 87, none, .mov (.t 86)⟩, ⟨some 88, some (87, false), .fa 2 2 (.t 4)⟩, ⟨some 89, some (87, false), .ld false 1 (.t 88)⟩, ⟨some 90, some (87, false), .bin (.gtr) (.t 89) (.c (.int (.i64) 1000))⟩, ⟨some 91, none, .pick (.t 87) (.c (.bool true)) (.t 90)⟩] (regK K [65, 66, 67, 68, 69, 70, 71, 72, 73, 74, 75, 76, 77, 78, 79, 80, 81, 82, 83, 84, 85, 86, 87, 88, 89, 90]) (panK K) env H := aw_reg _ _
def ref18_Valid_c17 : AC := .reg [⟨some 2, none, .mov (.c (.bool false))⟩] [1, 3, 4, 91]
@[simp] theorem ref18_Valid_c17_eq : aw PP ref18_Valid_c17 K env H = awOps PP [⟨some 2, none, .mov (.c (.bool false))⟩] (regK K [1, 3, 4, 91]) (panK K) env H := aw_reg _ _
def ref18_Valid_c18 : AC := .seq ref18_Valid_c17 .ret
@[simp] theorem ref18_Valid_c18_eq : aw PP ref18_Valid_c18 K env H = aw PP ref18_Valid_c17 (seqK PP .ret K) env H := aw_seq ref18_Valid_c17 .ret
def ref18_Valid_c19 : AC := .cond (.t 91) ref18_Valid_c18 .skip
@[simp] theorem ref18_Valid_c19_eq : aw PP ref18_Valid_c19 K env H = condQ PP (Opd.ev env (.t 91)) ref18_Valid_c18 .skip K env H := aw_cond _ ref18_Valid_c18 .skip
def ref18_Valid_c20 : AC := .seq ref18_Valid_c16 ref18_Valid_c19
@[simp] theorem ref18_Valid_c20_eq : aw PP ref18_Valid_c20 K env H = aw PP ref18_Valid_c16 (seqK PP ref18_Valid_c19 K) env H := aw_seq ref18_Valid_c16 ref18_Valid_c19
def ref18_Valid_c21 : AC := .reg [⟨some 5, none, .mov (.c (.int (.i64) 0))⟩] [91]
@[simp] theorem ref18_Valid_c21_eq : aw PP ref18_Valid_c21 K env H = awOps PP [⟨some 5, none, .mov (.c (.int (.i64) 0))⟩] (regK K [91]) (panK K) env H := aw_reg _ _
def ref18_Valid_c22 : AC := .reg [⟨some 92, none, .mov (.t 5)⟩, ⟨some 93, none, .fa 1 1 (.t 4)⟩, ⟨some 94, none, .ld false 1 (.t 93)⟩, ⟨some 95, none, .lenl (.t 94)⟩, ⟨some 96, none, .bin (.lss) (.t 92) (.t 95)⟩] [92, 93, 94, 95]
@[simp] theorem ref18_Valid_c22_eq : aw PP ref18_Valid_c22 K env H = awOps PP [⟨some 92, none, .mov (.t 5)⟩, ⟨some 93, none, .fa 1 1 (.t 4)⟩, ⟨some 94, none, .ld false 1 (.t 93)⟩, ⟨some 95, none, .lenl (.t 94)⟩, ⟨some 96, none, .bin (.lss) (.t 92) (.t 95)⟩] (regK K [92, 93, 94, 95]) (panK K) env H := aw_reg _ _
def ref18_Valid_c23 : AC := .cond (.t 96) .skip (.exit 2)
@[simp] theorem ref18_Valid_c23_eq : aw PP ref18_Valid_c23 K env H = condQ PP (Opd.ev env (.t 96)) .skip (.exit 2) K env H := aw_cond _ .skip (.exit 2)
def ref18_Valid_c24 : AC := .seq ref18_Valid_c22 ref18_Valid_c23
@[simp] theorem ref18_Valid_c24_eq : aw PP ref18_Valid_c24 K env H = aw PP ref18_Valid_c22 (seqK PP ref18_Valid_c23 K) env H := aw_seq ref18_Valid_c22 ref18_Valid_c23
def ref18_Valid_c25_ops : List (AI × List Nat) := [(⟨some 99, none, .fa 1 1 (.t 4)⟩, []), (⟨some 100, none, .ld false 1 (.t 99)⟩, [0]), (⟨some 101, none, .mov (.t 5)⟩, []), (⟨some 102, none, .ixa 1 (.t 100) (.t 101)⟩, [1, 2]), (⟨some 103, none, .ld false 1 (.t 102)⟩, [3]), (⟨some 104, none, .fa 0 0 (.t 1)⟩, []), (⟨some 105, none, .ld false 1 (.t 104)⟩, [5]), (⟨some 106, none, .lenl (.t 105)⟩, [6]), (⟨some 107, none, .bin (.geq) (.t 103) (.t 106)⟩, [4, 7]), (⟨some 108, none, .mov (.t 107)⟩, [8]), (⟨some 109, some (108, false), .fa 1 1 (.t 4)⟩, [9]), (⟨some 110, some (108, false), .ld false 1 (.t 109)⟩, [10, 9]), (⟨some 111, some (108, false), .mov (.t 5)⟩, [9]), (⟨some 112, some (108, false), .ixa 1 (.t 110) (.t 111)⟩, [11, 12, 9]), (⟨some 113, some (108, false), .ld false 1 (.t 112)⟩, [13, 9]), (⟨some 114, some (108, false), .fa 1 1 (.t 1)⟩, [9]), (⟨some 115, some (108, false), .ld false 1 (.t 114)⟩, [15, 9]), (⟨some 116, some (108, false), .lenl (.t 115)⟩, [16, 9]), (⟨some 117, some (108, false), .neg (.t 116)⟩, [17, 9]), (⟨some 118, some (108, false), .bin (.lss) (.t 113) (.t 117)⟩, [14, 18, 9]), (⟨some 119, none, .pick (.t 108) (.c (.bool true)) (.t 118)⟩, [9, 19])]
def ref18_Valid_c25 : AC := .dreg ref18_Valid_c25_ops [96, 99, 100, 101, 102, 103, 104, 105, 106, 107, 108, 109, 110, 111, 112, 113, 114, 115, 116, 117, 118]
theorem ref18_Valid_c25_ok : lexOK ref18_Valid_c25_ops (fun i => [].contains i) = true := by kernel_rfl
theorem ref18_Valid_c25_lex (h : awLex PP (fun i => [].contains i) (regK K [96, 99, 100, 101, 102, 103, 104, 105, 106, 107, 108, 109, 110, 111, 112, 113, 114, 115, 116, 117, 118]) (panK K) [(0, ⟨some 99, none, .fa 1 1 (.t 4)⟩), (1, ⟨some 100, none, .ld false 1 (.t 99)⟩), (2, ⟨some 101, none, .mov (.t 5)⟩), (3, ⟨some 102, none, .ixa 1 (.t 100) (.t 101)⟩), (4, ⟨some 103, none, .ld false 1 (.t 102)⟩), (5, ⟨some 104, none, .fa 0 0 (.t 1)⟩), (6, ⟨some 105, none, .ld false 1 (.t 104)⟩), (7, ⟨some 106, none, .lenl (.t 105)⟩), (8, ⟨some 107, none, .bin (.geq) (.t 103) (.t 106)⟩), (9, ⟨some 108, none, .mov (.t 107)⟩), (10, ⟨some 109, some (108, false), .fa 1 1 (.t 4)⟩), (11, ⟨some 110, some (108, false), .ld false 1 (.t 109)⟩), (12, ⟨some 111, some (108, false), .mov (.t 5)⟩), (13, ⟨some 112, some (108, false), .ixa 1 (.t 110) (.t 111)⟩), (14, ⟨some 113, some (108, false), .ld false 1 (.t 112)⟩), (15, ⟨some 114, some (108, false), .fa 1 1 (.t 1)⟩), (16, ⟨some 115, some (108, false), .ld false 1 (.t 114)⟩), (17, ⟨some 116, some (108, false), .lenl (.t 115)⟩), (18, ⟨some 117, some (108, false), .neg (.t 116)⟩), (19, ⟨some 118, some (108, false), .bin (.lss) (.t 113) (.t 117)⟩), (20, ⟨some 119, none, .pick (.t 108) (.c (.bool true)) (.t 118)⟩)] env H) : aw PP ref18_Valid_c25 K env H := aw_dreg_lex _ ref18_Valid_c25_ok h
def ref18_Valid_c26 : AC := .reg [⟨some 2, none, .mov (.c (.bool false))⟩] [1, 3, 4, 5, 119]
@[simp] theorem ref18_Valid_c26_eq : aw PP ref18_Valid_c26 K env H = awOps PP [⟨some 2, none, .mov (.c (.bool false))⟩] (regK K [1, 3, 4, 5, 119]) (panK K) env H := aw_reg _ _
def ref18_Valid_c27 : AC := .seq ref18_Valid_c26 .ret
@[simp] theorem ref18_Valid_c27_eq : aw PP ref18_Valid_c27 K env H = aw PP ref18_Valid_c26 (seqK PP .ret K) env H := aw_seq ref18_Valid_c26 .ret
def ref18_Valid_c28 : AC := .cond (.t 119) ref18_Valid_c27 .skip
@[simp] theorem ref18_Valid_c28_eq : aw PP ref18_Valid_c28 K env H = condQ PP (Opd.ev env (.t 119)) ref18_Valid_c27 .skip K env H := aw_cond _ ref18_Valid_c27 .skip
def ref18_Valid_c29 : AC := .seq ref18_Valid_c25 ref18_Valid_c28
@[simp] theorem ref18_Valid_c29_eq : aw PP ref18_Valid_c29 K env H = aw PP ref18_Valid_c25 (seqK PP ref18_Valid_c28 K) env H := aw_seq ref18_Valid_c25 ref18_Valid_c28
def ref18_Valid_c30 : AC := .block 3 ref18_Valid_c29
@[simp] theorem ref18_Valid_c30_eq : aw PP ref18_Valid_c30 K env H = aw PP ref18_Valid_c29 (blockK 3 K) env H := aw_block _ ref18_Valid_c29
def ref18_Valid_c31 : AC := .reg [⟨some 97, none, .mov (.t 5)⟩, ⟨some 98, none, .bin (.add) (.t 97) (.c (.int (.i64) 1))⟩, ⟨some 5, none, .mov (.t 98)⟩] [97, 98, 119]
@[simp] theorem ref18_Valid_c31_eq : aw PP ref18_Valid_c31 K env H = awOps PP [⟨some 97, none, .mov (.t 5)⟩, ⟨some 98, none, .bin (.add) (.t 97) (.c (.int (.i64) 1))⟩, ⟨some 5, none, .mov (.t 98)⟩] (regK K [97, 98, 119]) (panK K) env H := aw_reg _ _
def ref18_Valid_c32 : AC := .seq ref18_Valid_c30 ref18_Valid_c31
@[simp] theorem ref18_Valid_c32_eq : aw PP ref18_Valid_c32 K env H = aw PP ref18_Valid_c30 (seqK PP ref18_Valid_c31 K) env H := aw_seq ref18_Valid_c30 ref18_Valid_c31
def ref18_Valid_c33 : AC := .seq ref18_Valid_c24 ref18_Valid_c32
@[simp] theorem ref18_Valid_c33_eq : aw PP ref18_Valid_c33 K env H = aw PP ref18_Valid_c24 (seqK PP ref18_Valid_c32 K) env H := aw_seq ref18_Valid_c24 ref18_Valid_c32
def ref18_Valid_c34 : AC := .loop ref18_Valid_c33
def ref18_Valid_c35 : AC := .block 2 ref18_Valid_c34
@[simp] theorem ref18_Valid_c35_eq : aw PP ref18_Valid_c35 K env H = aw PP ref18_Valid_c34 (blockK 2 K) env H := aw_block _ ref18_Valid_c34
def ref18_Valid_c36 : AC := .seq ref18_Valid_c21 ref18_Valid_c35
@[simp] theorem ref18_Valid_c36_eq : aw PP ref18_Valid_c36 K env H = aw PP ref18_Valid_c21 (seqK PP ref18_Valid_c35 K) env H := aw_seq ref18_Valid_c21 ref18_Valid_c35
def ref18_Valid_c37 : AC := .seq ref18_Valid_c20 ref18_Valid_c36
@[simp] theorem ref18_Valid_c37_eq : aw PP ref18_Valid_c37 K env H = aw PP ref18_Valid_c20 (seqK PP ref18_Valid_c36 K) env H := aw_seq ref18_Valid_c20 ref18_Valid_c36
def ref18_Valid_c38 : AC := .seq ref18_Valid_c15 ref18_Valid_c37
@[simp] theorem ref18_Valid_c38_eq : aw PP ref18_Valid_c38 K env H = aw PP ref18_Valid_c15 (seqK PP ref18_Valid_c37 K) env H := aw_seq ref18_Valid_c15 ref18_Valid_c37
def ref18_Valid_c39 : AC := .block 1 ref18_Valid_c38
@[simp] theorem ref18_Valid_c39_eq : aw PP ref18_Valid_c39 K env H = aw PP ref18_Valid_c38 (blockK 1 K) env H := aw_block _ ref18_Valid_c38
def ref18_Valid_c40 : AC := .reg [⟨some 58, none, .mov (.t 3)⟩, ⟨some 59, none, .bin (.add) (.t 58) (.c (.int (.i64) 1))⟩, ⟨some 3, none, .mov (.t 59)⟩] [4, 5, 58, 59, 96]
@[simp] theorem ref18_Valid_c40_eq : aw PP ref18_Valid_c40 K env H = awOps PP [⟨some 58, none, .mov (.t 3)⟩, ⟨some 59, none, .bin (.add) (.t 58) (.c (.int (.i64) 1))⟩, ⟨some 3, none, .mov (.t 59)⟩] (regK K [4, 5, 58, 59, 96]) (panK K) env H := aw_reg _ _
def ref18_Valid_c41 : AC := .seq ref18_Valid_c39 ref18_Valid_c40
@[simp] theorem ref18_Valid_c41_eq : aw PP ref18_Valid_c41 K env H = aw PP ref18_Valid_c39 (seqK PP ref18_Valid_c40 K) env H := aw_seq ref18_Valid_c39 ref18_Valid_c40
def ref18_Valid_c42 : AC := .seq ref18_Valid_c14 ref18_Valid_c41
@[simp] theorem ref18_Valid_c42_eq : aw PP ref18_Valid_c42 K env H = aw PP ref18_Valid_c14 (seqK PP ref18_Valid_c41 K) env H := aw_seq ref18_Valid_c14 ref18_Valid_c41
def ref18_Valid_c43 : AC := .loop ref18_Valid_c42
def ref18_Valid_c44 : AC := .block 0 ref18_Valid_c43
@[simp] theorem ref18_Valid_c44_eq : aw PP ref18_Valid_c44 K env H = aw PP ref18_Valid_c43 (blockK 0 K) env H := aw_block _ ref18_Valid_c43
def ref18_Valid_c45 : AC := .seq ref18_Valid_c11 ref18_Valid_c44
@[simp] theorem ref18_Valid_c45_eq : aw PP ref18_Valid_c45 K env H = aw PP ref18_Valid_c11 (seqK PP ref18_Valid_c44 K) env H := aw_seq ref18_Valid_c11 ref18_Valid_c44
def ref18_Valid_c46 : AC := .reg [⟨some 2, none, .mov (.c (.bool true))⟩] [1, 3, 57]
@[simp] theorem ref18_Valid_c46_eq : aw PP ref18_Valid_c46 K env H = awOps PP [⟨some 2, none, .mov (.c (.bool true))⟩] (regK K [1, 3, 57]) (panK K) env H := aw_reg _ _
def ref18_Valid_c47 : AC := .seq ref18_Valid_c46 .ret
@[simp] theorem ref18_Valid_c47_eq : aw PP ref18_Valid_c47 K env H = aw PP ref18_Valid_c46 (seqK PP .ret K) env H := aw_seq ref18_Valid_c46 .ret
def ref18_Valid_c48 : AC := .seq ref18_Valid_c45 ref18_Valid_c47
@[simp] theorem ref18_Valid_c48_eq : aw PP ref18_Valid_c48 K env H = aw PP ref18_Valid_c45 (seqK PP ref18_Valid_c47 K) env H := aw_seq ref18_Valid_c45 ref18_Valid_c47
def ref18_Valid_c49 : AC := .seq ref18_Valid_c10 ref18_Valid_c48
@[simp] theorem ref18_Valid_c49_eq : aw PP ref18_Valid_c49 K env H = aw PP ref18_Valid_c10 (seqK PP ref18_Valid_c48 K) env H := aw_seq ref18_Valid_c10 ref18_Valid_c48
def ref18_Valid_c50 : AC := .seq ref18_Valid_c5 ref18_Valid_c49
@[simp] theorem ref18_Valid_c50_eq : aw PP ref18_Valid_c50 K env H = aw PP ref18_Valid_c5 (seqK PP ref18_Valid_c49 K) env H := aw_seq ref18_Valid_c5 ref18_Valid_c49
def ref18_Valid_c51 : AC := .seq ref18_Valid_c0 ref18_Valid_c50
@[simp] theorem ref18_Valid_c51_eq : aw PP ref18_Valid_c51 K env H = aw PP ref18_Valid_c0 (seqK PP ref18_Valid_c50 K) env H := aw_seq ref18_Valid_c0 ref18_Valid_c50
def ref18_Valid_ac : AC := ref18_Valid_c51
@[simp] theorem ref18_Valid_ac_eq : aw PP ref18_Valid_ac K env H = aw PP ref18_Valid_c51 K env H := Eq.trans rfl rfl
def ref18_Valid_rs : List ARV := [.tmp 2]
abbrev ref18_Valid_id : Nat := 13
theorem ref18_Valid_comp : compF PP ref18_Valid_kl ref18_Valid_ow 1 Tryd.f13 = some (ref18_Valid_ac, ref18_Valid_rs) := by kernel_rfl
theorem ref18_Valid_enter {args : List AV} {H : AHeap} {post : ARes → AHeap → Prop} (ha : args.length = 1) (h : aw PP ref18_Valid_ac (retK ref18_Valid_rs post) (argEnv 0 args) H) : ACalls PP ref18_Valid_id args H post := .enterF Tryd.func13 PP_mix ref18_Valid_comp ha h

/-! emendate.grammar.Equal -/
def grammar_Equal_kl : Nat → List Nat
  | 0 => [0, 1, 4]
  | 1 => [2, 3, 5, 6, 7, 8, 9, 10, 11, 12, 13, 14, 15, 16, 17, 18, 19, 20, 21, 22, 23, 24, 25, 26, 27, 28, 29, 30]
  | _ => []
def grammar_Equal_ow : Nat → Nat → Bool := fun _ _ => false
def grammar_Equal_c0 : AC := .reg [⟨some 2, none, .box (.t 0) 4 25⟩, ⟨some 3, none, .box (.t 1) 4 25⟩, ⟨some 4, none, .mov (.c (.bool false))⟩] [0, 1, 4]
@[simp] theorem grammar_Equal_c0_eq : aw PP grammar_Equal_c0 K env H = awOps PP [⟨some 2, none, .box (.t 0) 4 25⟩, ⟨some 3, none, .box (.t 1) 4 25⟩, ⟨some 4, none, .mov (.c (.bool false))⟩] (regK K [0, 1, 4]) (panK K) env H := aw_reg _ _
def grammar_Equal_c1 : AC := .reg [⟨some 5, none, .fa 2 2 (.t 2)⟩, ⟨some 6, none, .ld false 1 (.t 5)⟩, ⟨some 7, none, .fa 2 2 (.t 3)⟩, ⟨some 8, none, .ld false 1 (.t 7)⟩, ⟨some 9, none, .bin (.eql) (.t 6) (.t 8)⟩, ⟨some 10, none, .mov (.t 9)⟩, ⟨some 11, some (10, true), .fa 0 0 (.t 2)⟩, ⟨some 12, some (10, true), .ld false 1 (.t 11)⟩, ⟨some 13, some (10, true), .fa 0 0 (.t 3)⟩, ⟨some 14, some (10, true), .ld false 1 (.t 13)⟩, ⟨some 15, some (10, true), .call (.c (.fn (.func 26) [] [])) [.t 12, .t 14]⟩, ⟨some 16, none, .pick (.t 10) (.t 15) (.c (.bool false))⟩, ⟨some 17, none, .mov (.t 16)⟩, ⟨some 18, some (17, true), .fa 1 1 (.t 2)⟩, ⟨some 19, some (17, true), .ld false 1 (.t 18)⟩, ⟨some 20, some (17, true), .fa 1 1 (.t 3)⟩, ⟨some 21, some (17, true), .ld false 1 (.t 20)⟩, ⟨some 22, some (17, true), .call (.c (.fn (.func 26) [] [])) [.t 19, .t 21]⟩, ⟨some 23, none, .pick (.t 17) (.t 22) (.c (.bool false))⟩, ⟨some 24, none, .mov (.t 23)⟩, ⟨some 25, some (24, true), .fa 3 3 (.t 2)⟩, ⟨some 26, some (24, true), .ld false 1 (.t 25)⟩, ⟨some 27, some (24, true), .fa 3 3 (.t 3)⟩, ⟨some 28, some (24, true), .ld false 1 (.t 27)⟩, ⟨some 29, some (24, true), .call (.c (.fn (.func 27) [] [])) [.t 26, .t 28, .c (.fn (.func 28) [] [])]⟩, ⟨some 30, none, .pick (.t 24) (.t 29) (.c (.bool false))⟩, ⟨some 4, none, .mov (.t 30)⟩] [2, 3, 5, 6, 7, 8, 9, 10, 11, 12, 13, 14, 15, 16, 17, 18, 19, 20, 21, 22, 23, 24, 25, 26, 27, 28, 29, 30]
@[simp] theorem grammar_Equal_c1_eq : aw PP grammar_Equal_c1 K env H = awOps PP [⟨some 5, none, .fa 2 2 (.t 2)⟩, ⟨some 6, none, .ld false 1 (.t 5)⟩, ⟨some 7, none, .fa 2 2 (.t 3)⟩, ⟨some 8, none, .ld false 1 (.t 7)⟩, ⟨some 9, none, .bin (.eql) (.t 6) (.t 8)⟩, ⟨some 10, none, .mov (.t 9)⟩, ⟨some 11, some (10, true), .fa 0 0 (.t 2)⟩, ⟨some 12, some (10, true), .ld false 1 (.t 11)⟩, ⟨some 13, some (10, true), .fa 0 0 (.t 3)⟩, ⟨some 14, some (10, true), .ld false 1 (.t 13)⟩, ⟨some 15, some (10, true), .call (.c (.fn (.func 26) [] [])) [.t 12, .t 14]⟩, ⟨some 16, none, .pick (.t 10) (.t 15) (.c (.bool false))⟩, ⟨some 17, none, .mov (.t 16)⟩, ⟨some 18, some (17, true), .fa 1 1 (.t 2)⟩, ⟨some 19, some (17, true), .ld false 1 (.t 18)⟩, ⟨some 20, some (17, true), .fa 1 1 (.t 3)⟩, ⟨some 21, some (17, true), .ld false 1 (.t 20)⟩, ⟨some 22, some (17, true), .call (.c (.fn (.func 26) [] [])) [.t 19, .t 21]⟩, ⟨some 23, none, .pick (.t 17) (.t 22) (.c (.bool false))⟩, ⟨some 24, none, .mov (.t 23)⟩, ⟨some 25, some (24, true), .fa 3 3 (.t 2)⟩, ⟨some 26, some (24, true), .ld false 1 (.t 25)⟩, ⟨some 27, some (24, true), .fa 3 3 (.t 3)⟩, ⟨some 28, some (24, true), .ld false 1 (.t 27)⟩, ⟨some 29, some (24, true), .call (.c (.fn (.func 27) [] [])) [.t 26, .t 28, .c (.fn (.func 28) [] [])]⟩, ⟨some 30, none, .pick (.t 24) (.t 29) (.c (.bool false))⟩, ⟨some 4, none, .mov (.t 30)⟩] (regK K [2, 3, 5, 6, 7, 8, 9, 10, 11, 12, 13, 14, 15, 16, 17, 18, 19, 20, 21, 22, 23, 24, 25, 26, 27, 28, 29, 30]) (panK K) env H := aw_reg _ _
def grammar_Equal_c2 : AC := .seq grammar_Equal_c1 .ret
@[simp] theorem grammar_Equal_c2_eq : aw PP grammar_Equal_c2 K env H = aw PP grammar_Equal_c1 (seqK PP .ret K) env H := aw_seq grammar_Equal_c1 .ret
def grammar_Equal_c3 : AC := .seq grammar_Equal_c0 grammar_Equal_c2
@[simp] theorem grammar_Equal_c3_eq : aw PP grammar_Equal_c3 K env H = aw PP grammar_Equal_c0 (seqK PP grammar_Equal_c2 K) env H := aw_seq grammar_Equal_c0 grammar_Equal_c2
def grammar_Equal_ac : AC := grammar_Equal_c3
@[simp] theorem grammar_Equal_ac_eq : aw PP grammar_Equal_ac K env H = aw PP grammar_Equal_c3 K env H := Eq.trans rfl rfl
def grammar_Equal_rs : List ARV := [.tmp 4]
abbrev grammar_Equal_id : Nat := 14
theorem grammar_Equal_comp : compF PP grammar_Equal_kl grammar_Equal_ow 2 Tryd.f14 = some (grammar_Equal_ac, grammar_Equal_rs) := by kernel_rfl
theorem grammar_Equal_enter {args : List AV} {H : AHeap} {post : ARes → AHeap → Prop} (ha : args.length = 2) (h : aw PP grammar_Equal_ac (retK grammar_Equal_rs post) (argEnv 0 args) H) : ACalls PP grammar_Equal_id args H post := .enterF Tryd.func14 PP_mix grammar_Equal_comp ha h

/-! emendate.emendateref18.Equal -/
def ref18_Equal_kl : Nat → List Nat
  | 0 => [0, 1, 4]
  | 1 => [9, 10, 11, 12, 13, 14, 15, 16, 17, 18, 19, 20, 21, 22, 23, 24, 25, 26, 27, 28, 29, 30, 31, 32, 33, 34, 35, 36, 37]
  | 2 => [2, 3, 38]
  | 3 => [38]
  | 4 => [39, 40, 41, 42]
  | 5 => [6, 7, 8, 44, 45, 81]
  | 6 => [43, 46, 47, 48, 49, 50, 51, 52, 53, 54, 55]
  | 7 => [56, 57, 58, 59, 60, 61, 62, 63, 64, 65, 66, 67, 68, 69, 70, 71, 72, 73, 74, 75]
  | 8 => [2, 3, 5, 6, 7, 76]
  | 9 => [76]
  | 10 => [77, 78, 79, 80]
  | 11 => [82, 83, 94]
  | 12 => [81, 84, 85, 86, 87, 88, 89, 90, 91, 92, 93]
  | 13 => [2, 3, 5, 6, 7, 8, 94]
  | 14 => [2, 3, 5, 43]
  | _ => []
def ref18_Equal_ow : Nat → Nat → Bool := fun _ _ => false
def ref18_Equal_c0 : AC := .reg [⟨some 2, none, .box (.t 0) 4 25⟩, ⟨some 3, none, .box (.t 1) 4 25⟩, ⟨some 4, none, .mov (.c (.bool false))⟩] [0, 1, 4]
@[simp] theorem ref18_Equal_c0_eq : aw PP ref18_Equal_c0 K env H = awOps PP [⟨some 2, none, .box (.t 0) 4 25⟩, ⟨some 3, none, .box (.t 1) 4 25⟩, ⟨some 4, none, .mov (.c (.bool false))⟩] (regK K [0, 1, 4]) (panK K) env H := aw_reg _ _
def ref18_Equal_c1 : AC := .reg [⟨some 9, none, .fa 0 0 (.t 2)⟩, ⟨some 10, none, .ld false 1 (.t 9)⟩, ⟨some 11, none, .fa 0 0 (.t 3)⟩, ⟨some 12, none, .ld false 1 (.t 11)⟩, ⟨some 13, none, .call (.c (.fn (.func 30) [] [])) [.t 10, .t 12]⟩, ⟨some 14, none, .not (.t 13)⟩, ⟨some 15, none, .mov (.t 14)⟩, ⟨some 16, some (15, false), .fa 1 1 (.t 2)⟩, ⟨some 17, some (15, false), .ld false 1 (.t 16)⟩, ⟨some 18, some (15, false), .fa 1 1 (.t 3)⟩, ⟨some 19, some (15, false), .ld false 1 (.t 18)⟩, ⟨some 20, some (15, false), .call (.c (.fn (.func 30) [] [])) [.t 17, .t 19]⟩, ⟨some 21, some (15, false), .not (.t 20)⟩, ⟨some 22, none, .pick (.t 15) (.c (.bool true)) (.t 21)⟩, ⟨some 23, none, .mov (.t 22)⟩, ⟨some 24, some (23, false), .fa 2 2 (.t 2)⟩, ⟨some 25, some (23, false), .ld false 1 (.t 24)⟩, ⟨some 26, some (23, false), .fa 2 2 (.t 3)⟩, ⟨some 27, some (23, false), .ld false 1 (.t 26)⟩, ⟨some 28, some (23, false), .bin (.neq) (.t 25) (.t 27)⟩, ⟨some 29, none, .pick (.t 23) (.c (.bool true)) (.t 28)⟩, ⟨some 30, none, .mov (.t 29)⟩, ⟨some 31, some (30, false), .fa 3 3 (.t 2)⟩, ⟨some 32, some (30, false), .ld false 1 (.t 31)⟩, ⟨some 33, some (30, false), .lenl (.t 32)⟩, ⟨some 34, some (30, false), .fa 3 3 (.t 3)⟩, ⟨some 35, some (30, false), .ld false 1 (.t 34)⟩, ⟨some 36, some (30, false), .lenl (.t 35)⟩, ⟨some 37, some (30, false), .bin (.neq) (.t 33) (.t 36)⟩, ⟨some 38, none, .pick (.t 30) (.c (.bool true)) (.t 37)⟩] [9, 10, 11, 12, 13, 14, 15, 16, 17, 18, 19, 20, 21, 22, 23, 24, 25, 26, 27, 28, 29, 30, 31, 32, 33, 34, 35, 36, 37]
@[simp] theorem ref18_Equal_c1_eq : aw PP ref18_Equal_c1 K env H = awOps PP [⟨some 9, none, .fa 0 0 (.t 2)⟩, ⟨some 10, none, .ld false 1 (.t 9)⟩, ⟨some 11, none, .fa 0 0 (.t 3)⟩, ⟨some 12, none, .ld false 1 (.t 11)⟩, ⟨some 13, none, .call (.c (.fn (.func 30) [] [])) [.t 10, .t 12]⟩, ⟨some 14, none, .not (.t 13)⟩, ⟨some 15, none, .mov (.t 14)⟩, ⟨some 16, some (15, false), .fa 1 1 (.t 2)⟩, ⟨some 17, some (15, false), .ld false 1 (.t 16)⟩, ⟨some 18, some (15, false), .fa 1 1 (.t 3)⟩, ⟨some 19, some (15, false), .ld false 1 (.t 18)⟩, ⟨some 20, some (15, false), .call (.c (.fn (.func 30) [] [])) [.t 17, .t 19]⟩, ⟨some 21, some (15, false), .not (.t 20)⟩, ⟨some 22, none, .pick (.t 15) (.c (.bool true)) (.t 21)⟩, ⟨some 23, none, .mov (.t 22)⟩, ⟨some 24, some (23, false), .fa 2 2 (.t 2)⟩, ⟨some 25, some (23, false), .ld false 1 (.t 24)⟩, ⟨some 26, some (23, false), .fa 2 2 (.t 3)⟩, ⟨some 27, some (23, false), .ld false 1 (.t 26)⟩, ⟨some 28, some (23, false), .bin (.neq) (.t 25) (.t 27)⟩, ⟨some 29, none, .pick (.t 23) (.c (.bool true)) (.t 28)⟩, ⟨some 30, none, .mov (.t 29)⟩, ⟨some 31, some (30, false), .fa 3 3 (.t 2)⟩, ⟨some 32, some (30, false), .ld false 1 (.t 31)⟩, ⟨some 33, some (30, false), .lenl (.t 32)⟩, ⟨some 34, some (30, false), .fa 3 3 (.t 3)⟩, ⟨some 35, some (30, false), .ld false 1 (.t 34)⟩, ⟨some 36, some (30, false), .lenl (.t 35)⟩, ⟨some 37, some (30, false), .bin (.neq) (.t 33) (.t 36)⟩, ⟨some 38, none, .pick (.t 30) (.c (.bool true)) (.t 37)⟩] (regK K [9, 10, 11, 12, 13, 14, 15, 16, 17, 18, 19, 20, 21, 22, 23, 24, 25, 26, 27, 28, 29, 30, 31, 32, 33, 34, 35, 36, 37]) (panK K) env H := aw_reg _ _
def ref18_Equal_c2 : AC := .reg [⟨some 4, none, .mov (.c (.bool false))⟩] [2, 3, 38]
@[simp] theorem ref18_Equal_c2_eq : aw PP ref18_Equal_c2 K env H = awOps PP [⟨some 4, none, .mov (.c (.bool false))⟩] (regK K [2, 3, 38]) (panK K) env H := aw_reg _ _
def ref18_Equal_c3 : AC := .seq ref18_Equal_c2 .ret
@[simp] theorem ref18_Equal_c3_eq : aw PP ref18_Equal_c3 K env H = aw PP ref18_Equal_c2 (seqK PP .ret K) env H := aw_seq ref18_Equal_c2 .ret
def ref18_Equal_c4 : AC := .cond (.t 38) ref18_Equal_c3 .skip
@[simp] theorem ref18_Equal_c4_eq : aw PP ref18_Equal_c4 K env H = condQ PP (Opd.ev env (.t 38)) ref18_Equal_c3 .skip K env H := aw_cond _ ref18_Equal_c3 .skip
def ref18_Equal_c5 : AC := .seq ref18_Equal_c1 ref18_Equal_c4
@[simp] theorem ref18_Equal_c5_eq : aw PP ref18_Equal_c5 K env H = aw PP ref18_Equal_c1 (seqK PP ref18_Equal_c4 K) env H := aw_seq ref18_Equal_c1 ref18_Equal_c4
def ref18_Equal_c6 : AC := .reg [⟨some 5, none, .mov (.c (.int (.i64) 0))⟩] [38]
@[simp] theorem ref18_Equal_c6_eq : aw PP ref18_Equal_c6 K env H = awOps PP [⟨some 5, none, .mov (.c (.int (.i64) 0))⟩] (regK K [38]) (panK K) env H := aw_reg _ _
def ref18_Equal_c7 : AC := .reg [⟨some 39, none, .mov (.t 5)⟩, ⟨some 40, none, .fa 3 3 (.t 2)⟩, ⟨some 41, none, .ld false 1 (.t 40)⟩, ⟨some 42, none, .lenl (.t 41)⟩, ⟨some 43, none, .bin (.lss) (.t 39) (.t 42)⟩] [39, 40, 41, 42]
@[simp] theorem ref18_Equal_c7_eq : aw PP ref18_Equal_c7 K env H = awOps PP [⟨some 39, none, .mov (.t 5)⟩, ⟨some 40, none, .fa 3 3 (.t 2)⟩, ⟨some 41, none, .ld false 1 (.t 40)⟩, ⟨some 42, none, .lenl (.t 41)⟩, ⟨some 43, none, .bin (.lss) (.t 39) (.t 42)⟩] (regK K [39, 40, 41, 42]) (panK K) env H := aw_reg _ _
def ref18_Equal_c8 : AC := .cond (.t 43) .skip (.exit 0)
@[simp] theorem ref18_Equal_c8_eq : aw PP ref18_Equal_c8 K env H = condQ PP (Opd.ev env (.t 43)) .skip (.exit 0) K env H := aw_cond _ .skip (.exit 0)
def ref18_Equal_c9 : AC := .seq ref18_Equal_c7 ref18_Equal_c8
@[simp] theorem ref18_Equal_c9_eq : aw PP ref18_Equal_c9 K env H = aw PP ref18_Equal_c7 (seqK PP ref18_Equal_c8 K) env H := aw_seq ref18_Equal_c7 ref18_Equal_c8
def ref18_Equal_c10_ops : List (AI × List Nat) := [(⟨some 46, none, .fa 3 3 (.t 2)⟩, []), (⟨some 47, none, .ld false 1 (.t 46)⟩, [0]), (⟨some 48, none, .mov (.t 5)⟩, []), (⟨some 49, none, .ixa 3 (.t 47) (.t 48)⟩, [1, 2]), (⟨some 50, none, .ld true 3 (.t 49)⟩, [3]), (⟨some 51, none, .fa 3 3 (.t 3)⟩, []), (⟨some 52, none, .ld false 1 (.t 51)⟩, [5]), (⟨some 53, none, .mov (.t 5)⟩, []), (⟨some 54, none, .ixa 3 (.t 52) (.t 53)⟩, [6, 7]), (⟨some 55, none, .ld true 3 (.t 54)⟩, [8]), (⟨some 6, none, .alloc (.struct [.int (.i64) 0, .nils, .int (.i64) 0]) 36⟩, []), (⟨some 7, none, .alloc (.struct [.int (.i64) 0, .nils, .int (.i64) 0]) 36⟩, []), (⟨none, none, .st 3 (.t 6) (.t 50)⟩, [10, 4, 0, 1, 2, 3, 4, 10, 11]), (⟨none, none, .st 3 (.t 7) (.t 55)⟩, [11, 9, 12, 0, 1, 2, 3, 4, 5, 6, 7, 8, 9, 10, 11, 12])]
def ref18_Equal_c10 : AC := .dreg ref18_Equal_c10_ops [43, 46, 47, 48, 49, 50, 51, 52, 53, 54, 55]
theorem ref18_Equal_c10_okF : lexOKF ref18_Equal_c10_ops 13 (fun i => [10, 11, 12, 13].contains i) = true := by kernel_rfl
theorem ref18_Equal_c10_lexF (B : List Nat) (h : awLexF PP 13 (fun i => [10, 11, 12, 13].contains i) B H (regK K [43, 46, 47, 48, 49, 50, 51, 52, 53, 54, 55]) (panK K) [(0, ⟨some 46, none, .fa 3 3 (.t 2)⟩), (1, ⟨some 47, none, .ld false 1 (.t 46)⟩), (2, ⟨some 48, none, .mov (.t 5)⟩), (3, ⟨some 49, none, .ixa 3 (.t 47) (.t 48)⟩), (4, ⟨some 50, none, .ld true 3 (.t 49)⟩), (5, ⟨some 51, none, .fa 3 3 (.t 3)⟩), (6, ⟨some 52, none, .ld false 1 (.t 51)⟩), (7, ⟨some 53, none, .mov (.t 5)⟩), (8, ⟨some 54, none, .ixa 3 (.t 52) (.t 53)⟩), (9, ⟨some 55, none, .ld true 3 (.t 54)⟩), (10, ⟨some 6, none, .alloc (.struct [.int (.i64) 0, .nils, .int (.i64) 0]) 36⟩), (11, ⟨some 7, none, .alloc (.struct [.int (.i64) 0, .nils, .int (.i64) 0]) 36⟩), (12, ⟨none, none, .st 3 (.t 6) (.t 50)⟩), (13, ⟨none, none, .st 3 (.t 7) (.t 55)⟩)] env H) : aw PP ref18_Equal_c10 K env H := aw_dreg_lexF _ _ B ref18_Equal_c10_okF h
def ref18_Equal_c11 : AC := .reg [⟨some 56, none, .fa 0 0 (.t 6)⟩, ⟨some 57, none, .ld false 1 (.t 56)⟩, ⟨some 58, none, .fa 0 0 (.t 7)⟩, ⟨some 59, none, .ld false 1 (.t 58)⟩, ⟨some 60, none, .bin (.neq) (.t 57) (.t 59)⟩, ⟨some 61, none, .mov (.t 60)⟩, ⟨some 62, some (61, false), .fa 2 2 (.t 6)⟩, ⟨some 63, some (61, false), .ld false 1 (.t 62)⟩, ⟨some 64, some (61, false), .fa 2 2 (.t 7)⟩, ⟨some 65, some (61, false), .ld false 1 (.t 64)⟩, ⟨some 66, some (61, false), .bin (.neq) (.t 63) (.t 65)⟩, ⟨some 67, none, .pick (.t 61) (.c (.bool true)) (.t 66)⟩, ⟨some 68, none, .mov (.t 67)⟩, ⟨some 69, some (68, false), .fa 1 1 (.t 6)⟩, ⟨some 70, some (68, false), .ld false 1 (.t 69)⟩, ⟨some 71, some (68, false), .lenl (.t 70)⟩, ⟨some 72, some (68, false), .fa 1 1 (.t 7)⟩, ⟨some 73, some (68, false), .ld false 1 (.t 72)⟩, ⟨some 74, some (68, false), .lenl (.t 73)⟩, ⟨some 75, some (68, false), .bin (.neq) (.t 71) (.t 74)⟩, ⟨some 76, none, .pick (.t 68) (.c (.bool true)) (.t 75)⟩] [56, 57, 58, 59, 60, 61, 62, 63, 64, 65, 66, 67, 68, 69, 70, 71, 72, 73, 74, 75]
@[simp] theorem ref18_Equal_c11_eq : aw PP ref18_Equal_c11 K env H = awOps PP [⟨some 56, none, .fa 0 0 (.t 6)⟩, ⟨some 57, none, .ld false 1 (.t 56)⟩, ⟨some 58, none, .fa 0 0 (.t 7)⟩, ⟨some 59, none, .ld false 1 (.t 58)⟩, ⟨some 60, none, .bin (.neq) (.t 57) (.t 59)⟩, ⟨some 61, none, .mov (.t 60)⟩, ⟨some 62, some (61, false), .fa 2 2 (.t 6)⟩, ⟨some 63, some (61, false), .ld false 1 (.t 62)⟩, ⟨some 64, some (61, false), .fa 2 2 (.t 7)⟩, ⟨some 65, some (61, false), .ld false 1 (.t 64)⟩, ⟨some 66, some (61, false), .bin (.neq) (.t 63) (.t 65)⟩, ⟨some 67, none, .pick (.t 61) (.c (.bool true)) (.t 66)⟩, ⟨some 68, none, .mov (.t 67)⟩, ⟨some 69, some (68, false), .fa 1 1 (.t 6)⟩, ⟨some 70, some (68, false), .ld false 1 (.t 69)⟩, ⟨some 71, some (68, false), .lenl (.t 70)⟩, ⟨some 72, some (68, false), .fa 1 1 (.t 7)⟩, ⟨some 73, some (68, false), .ld false 1 (.t 72)⟩, ⟨some 74, some (68, false), .lenl (.t 73)⟩, ⟨some 75, some (68, false), .bin (.neq) (.t 71) (.t 74)⟩, ⟨some 76, none, .pick (.t 68) (.c (.bool true)) (.t 75)⟩] (regK K [56, 57, 58, 59, 60, 61, 62, 63, 64, 65, 66, 67, 68, 69, 70, 71, 72, 73, 74, 75]) (panK K) env H := aw_reg _ _
def ref18_Equal_c12 : AC := .reg [⟨some 4, none, .mov (.c (.bool false))⟩] [2, 3, 5, 6, 7, 76]
@[simp] theorem ref18_Equal_c12_eq : aw PP ref18_Equal_c12 K env H = awOps PP [⟨some 4, none, .mov (.c (.bool false))⟩] (regK K [2, 3, 5, 6, 7, 76]) (panK K) env H := aw_reg _ _
def ref18_Equal_c13 : AC := .seq ref18_Equal_c12 .ret
@[simp] theorem ref18_Equal_c13_eq : aw PP ref18_Equal_c13 K env H = aw PP ref18_Equal_c12 (seqK PP .ret K) env H := aw_seq ref18_Equal_c12 .ret
def ref18_Equal_c14 : AC := .cond (.t 76) ref18_Equal_c13 .skip
@[simp] theorem ref18_Equal_c14_eq : aw PP ref18_Equal_c14 K env H = condQ PP (Opd.ev env (.t 76)) ref18_Equal_c13 .skip K env H := aw_cond _ ref18_Equal_c13 .skip
def ref18_Equal_c15 : AC := .seq ref18_Equal_c11 ref18_Equal_c14
@[simp] theorem ref18_Equal_c15_eq : aw PP ref18_Equal_c15 K env H = aw PP ref18_Equal_c11 (seqK PP ref18_Equal_c14 K) env H := aw_seq ref18_Equal_c11 ref18_Equal_c14
def ref18_Equal_c16 : AC := .reg [⟨some 8, none, .mov (.c (.int (.i64) 0))⟩] [76]
@[simp] theorem ref18_Equal_c16_eq : aw PP ref18_Equal_c16 K env H = awOps PP [⟨some 8, none, .mov (.c (.int (.i64) 0))⟩] (regK K [76]) (panK K) env H := aw_reg _ _
def ref18_Equal_c17 : AC := .reg [⟨some 77, none, .mov (.t 8)⟩, ⟨some 78, none, .fa 1 1 (.t 6)⟩, ⟨some 79, none, .ld false 1 (.t 78)⟩, ⟨some 80, none, .lenl (.t 79)⟩, ⟨some 81, none, .bin (.lss) (.t 77) (.t 80)⟩] [77, 78, 79, 80]
@[simp] theorem ref18_Equal_c17_eq : aw PP ref18_Equal_c17 K env H = awOps PP [⟨some 77, none, .mov (.t 8)⟩, ⟨some 78, none, .fa 1 1 (.t 6)⟩, ⟨some 79, none, .ld false 1 (.t 78)⟩, ⟨some 80, none, .lenl (.t 79)⟩, ⟨some 81, none, .bin (.lss) (.t 77) (.t 80)⟩] (regK K [77, 78, 79, 80]) (panK K) env H := aw_reg _ _
def ref18_Equal_c18 : AC := .cond (.t 81) .skip (.exit 2)
@[simp] theorem ref18_Equal_c18_eq : aw PP ref18_Equal_c18 K env H = condQ PP (Opd.ev env (.t 81)) .skip (.exit 2) K env H := aw_cond _ .skip (.exit 2)
def ref18_Equal_c19 : AC := .seq ref18_Equal_c17 ref18_Equal_c18
@[simp] theorem ref18_Equal_c19_eq : aw PP ref18_Equal_c19 K env H = aw PP ref18_Equal_c17 (seqK PP ref18_Equal_c18 K) env H := aw_seq ref18_Equal_c17 ref18_Equal_c18
def ref18_Equal_c20_ops : List (AI × List Nat) := [(⟨some 84, none, .fa 1 1 (.t 6)⟩, []), (⟨some 85, none, .ld false 1 (.t 84)⟩, [0]), (⟨some 86, none, .mov (.t 8)⟩, []), (⟨some 87, none, .ixa 1 (.t 85) (.t 86)⟩, [1, 2]), (⟨some 88, none, .ld false 1 (.t 87)⟩, [3]), (⟨some 89, none, .fa 1 1 (.t 7)⟩, []), (⟨some 90, none, .ld false 1 (.t 89)⟩, [5]), (⟨some 91, none, .mov (.t 8)⟩, []), (⟨some 92, none, .ixa 1 (.t 90) (.t 91)⟩, [6, 7]), (⟨some 93, none, .ld false 1 (.t 92)⟩, [8]), (⟨some 94, none, .bin (.neq) (.t 88) (.t 93)⟩, [4, 9])]
def ref18_Equal_c20 : AC := .dreg ref18_Equal_c20_ops [81, 84, 85, 86, 87, 88, 89, 90, 91, 92, 93]
theorem ref18_Equal_c20_ok : lexOK ref18_Equal_c20_ops (fun i => [].contains i) = true := by kernel_rfl
theorem ref18_Equal_c20_lex (h : awLex PP (fun i => [].contains i) (regK K [81, 84, 85, 86, 87, 88, 89, 90, 91, 92, 93]) (panK K) [(0, ⟨some 84, none, .fa 1 1 (.t 6)⟩), (1, ⟨some 85, none, .ld false 1 (.t 84)⟩), (2, ⟨some 86, none, .mov (.t 8)⟩), (3, ⟨some 87, none, .ixa 1 (.t 85) (.t 86)⟩), (4, ⟨some 88, none, .ld false 1 (.t 87)⟩), (5, ⟨some 89, none, .fa 1 1 (.t 7)⟩), (6, ⟨some 90, none, .ld false 1 (.t 89)⟩), (7, ⟨some 91, none, .mov (.t 8)⟩), (8, ⟨some 92, none, .ixa 1 (.t 90) (.t 91)⟩), (9, ⟨some 93, none, .ld false 1 (.t 92)⟩), (10, ⟨some 94, none, .bin (.neq) (.t 88) (.t 93)⟩)] env H) : aw PP ref18_Equal_c20 K env H := aw_dreg_lex _ ref18_Equal_c20_ok h
def ref18_Equal_c21 : AC := .reg [⟨some 4, none, .mov (.c (.bool false))⟩] [2, 3, 5, 6, 7, 8, 94]
@[simp] theorem ref18_Equal_c21_eq : aw PP ref18_Equal_c21 K env H = awOps PP [⟨some 4, none, .mov (.c (.bool false))⟩] (regK K [2, 3, 5, 6, 7, 8, 94]) (panK K) env H := aw_reg _ _
def ref18_Equal_c22 : AC := .seq ref18_Equal_c21 .ret
@[simp] theorem ref18_Equal_c22_eq : aw PP ref18_Equal_c22 K env H = aw PP ref18_Equal_c21 (seqK PP .ret K) env H := aw_seq ref18_Equal_c21 .ret
def ref18_Equal_c23 : AC := .cond (.t 94) ref18_Equal_c22 .skip
@[simp] theorem ref18_Equal_c23_eq : aw PP ref18_Equal_c23 K env H = condQ PP (Opd.ev env (.t 94)) ref18_Equal_c22 .skip K env H := aw_cond _ ref18_Equal_c22 .skip
def ref18_Equal_c24 : AC := .seq ref18_Equal_c20 ref18_Equal_c23
@[simp] theorem ref18_Equal_c24_eq : aw PP ref18_Equal_c24 K env H = aw PP ref18_Equal_c20 (seqK PP ref18_Equal_c23 K) env H := aw_seq ref18_Equal_c20 ref18_Equal_c23
def ref18_Equal_c25 : AC := .block 3 ref18_Equal_c24
@[simp] theorem ref18_Equal_c25_eq : aw PP ref18_Equal_c25 K env H = aw PP ref18_Equal_c24 (blockK 3 K) env H := aw_block _ ref18_Equal_c24
def ref18_Equal_c26 : AC := .reg [⟨some 82, none, .mov (.t 8)⟩, ⟨some 83, none, .bin (.add) (.t 82) (.c (.int (.i64) 1))⟩, ⟨some 8, none, .mov (.t 83)⟩] [82, 83, 94]
@[simp] theorem ref18_Equal_c26_eq : aw PP ref18_Equal_c26 K env H = awOps PP [⟨some 82, none, .mov (.t 8)⟩, ⟨some 83, none, .bin (.add) (.t 82) (.c (.int (.i64) 1))⟩, ⟨some 8, none, .mov (.t 83)⟩] (regK K [82, 83, 94]) (panK K) env H := aw_reg _ _
def ref18_Equal_c27 : AC := .seq ref18_Equal_c25 ref18_Equal_c26
@[simp] theorem ref18_Equal_c27_eq : aw PP ref18_Equal_c27 K env H = aw PP ref18_Equal_c25 (seqK PP ref18_Equal_c26 K) env H := aw_seq ref18_Equal_c25 ref18_Equal_c26
def ref18_Equal_c28 : AC := .seq ref18_Equal_c19 ref18_Equal_c27
@[simp] theorem ref18_Equal_c28_eq : aw PP ref18_Equal_c28 K env H = aw PP ref18_Equal_c19 (seqK PP ref18_Equal_c27 K) env H := aw_seq ref18_Equal_c19 ref18_Equal_c27
def ref18_Equal_c29 : AC := .loop ref18_Equal_c28
def ref18_Equal_c30 : AC := .block 2 ref18_Equal_c29
@[simp] theorem ref18_Equal_c30_eq : aw PP ref18_Equal_c30 K env H = aw PP ref18_Equal_c29 (blockK 2 K) env H := aw_block _ ref18_Equal_c29
def ref18_Equal_c31 : AC := .seq ref18_Equal_c16 ref18_Equal_c30
@[simp] theorem ref18_Equal_c31_eq : aw PP ref18_Equal_c31 K env H = aw PP ref18_Equal_c16 (seqK PP ref18_Equal_c30 K) env H := aw_seq ref18_Equal_c16 ref18_Equal_c30
def ref18_Equal_c32 : AC := .seq ref18_Equal_c15 ref18_Equal_c31
@[simp] theorem ref18_Equal_c32_eq : aw PP ref18_Equal_c32 K env H = aw PP ref18_Equal_c15 (seqK PP ref18_Equal_c31 K) env H := aw_seq ref18_Equal_c15 ref18_Equal_c31
def ref18_Equal_c33 : AC := .seq ref18_Equal_c10 ref18_Equal_c32
@[simp] theorem ref18_Equal_c33_eq : aw PP ref18_Equal_c33 K env H = aw PP ref18_Equal_c10 (seqK PP ref18_Equal_c32 K) env H := aw_seq ref18_Equal_c10 ref18_Equal_c32
def ref18_Equal_c34 : AC := .block 1 ref18_Equal_c33
@[simp] theorem ref18_Equal_c34_eq : aw PP ref18_Equal_c34 K env H = aw PP ref18_Equal_c33 (blockK 1 K) env H := aw_block _ ref18_Equal_c33
def ref18_Equal_c35 : AC := .reg [⟨some 44, none, .mov (.t 5)⟩, ⟨some 45, none, .bin (.add) (.t 44) (.c (.int (.i64) 1))⟩, ⟨some 5, none, .mov (.t 45)⟩] [6, 7, 8, 44, 45, 81]
@[simp] theorem ref18_Equal_c35_eq : aw PP ref18_Equal_c35 K env H = awOps PP [⟨some 44, none, .mov (.t 5)⟩, ⟨some 45, none, .bin (.add) (.t 44) (.c (.int (.i64) 1))⟩, ⟨some 5, none, .mov (.t 45)⟩] (regK K [6, 7, 8, 44, 45, 81]) (panK K) env H := aw_reg _ _
def ref18_Equal_c36 : AC := .seq ref18_Equal_c34 ref18_Equal_c35
@[simp] theorem ref18_Equal_c36_eq : aw PP ref18_Equal_c36 K env H = aw PP ref18_Equal_c34 (seqK PP ref18_Equal_c35 K) env H := aw_seq ref18_Equal_c34 ref18_Equal_c35
def ref18_Equal_c37 : AC := .seq ref18_Equal_c9 ref18_Equal_c36
@[simp] theorem ref18_Equal_c37_eq : aw PP ref18_Equal_c37 K env H = aw PP ref18_Equal_c9 (seqK PP ref18_Equal_c36 K) env H := aw_seq ref18_Equal_c9 ref18_Equal_c36
def ref18_Equal_c38 : AC := .loop ref18_Equal_c37
def ref18_Equal_c39 : AC := .block 0 ref18_Equal_c38
@[simp] theorem ref18_Equal_c39_eq : aw PP ref18_Equal_c39 K env H = aw PP ref18_Equal_c38 (blockK 0 K) env H := aw_block _ ref18_Equal_c38
def ref18_Equal_c40 : AC := .seq ref18_Equal_c6 ref18_Equal_c39
@[simp] theorem ref18_Equal_c40_eq : aw PP ref18_Equal_c40 K env H = aw PP ref18_Equal_c6 (seqK PP ref18_Equal_c39 K) env H := aw_seq ref18_Equal_c6 ref18_Equal_c39
def ref18_Equal_c41 : AC := .reg [⟨some 4, none, .mov (.c (.bool true))⟩] [2, 3, 5, 43]
@[simp] theorem ref18_Equal_c41_eq : aw PP ref18_Equal_c41 K env H = awOps PP [⟨some 4, none, .mov (.c (.bool true))⟩] (regK K [2, 3, 5, 43]) (panK K) env H := aw_reg _ _
def ref18_Equal_c42 : AC := .seq ref18_Equal_c41 .ret
@[simp] theorem ref18_Equal_c42_eq : aw PP ref18_Equal_c42 K env H = aw PP ref18_Equal_c41 (seqK PP .ret K) env H := aw_seq ref18_Equal_c41 .ret
def ref18_Equal_c43 : AC := .seq ref18_Equal_c40 ref18_Equal_c42
@[simp] theorem ref18_Equal_c43_eq : aw PP ref18_Equal_c43 K env H = aw PP ref18_Equal_c40 (seqK PP ref18_Equal_c42 K) env H := aw_seq ref18_Equal_c40 ref18_Equal_c42
def ref18_Equal_c44 : AC := .seq ref18_Equal_c5 ref18_Equal_c43
@[simp] theorem ref18_Equal_c44_eq : aw PP ref18_Equal_c44 K env H = aw PP ref18_Equal_c5 (seqK PP ref18_Equal_c43 K) env H := aw_seq ref18_Equal_c5 ref18_Equal_c43
def ref18_Equal_c45 : AC := .seq ref18_Equal_c0 ref18_Equal_c44
@[simp] theorem ref18_Equal_c45_eq : aw PP ref18_Equal_c45 K env H = aw PP ref18_Equal_c0 (seqK PP ref18_Equal_c44 K) env H := aw_seq ref18_Equal_c0 ref18_Equal_c44
def ref18_Equal_ac : AC := ref18_Equal_c45
@[simp] theorem ref18_Equal_ac_eq : aw PP ref18_Equal_ac K env H = aw PP ref18_Equal_c45 K env H := Eq.trans rfl rfl
def ref18_Equal_rs : List ARV := [.tmp 4]
abbrev ref18_Equal_id : Nat := 15
theorem ref18_Equal_comp : compF PP ref18_Equal_kl ref18_Equal_ow 2 Tryd.f15 = some (ref18_Equal_ac, ref18_Equal_rs) := by kernel_rfl
theorem ref18_Equal_enter {args : List AV} {H : AHeap} {post : ARes → AHeap → Prop} (ha : args.length = 2) (h : aw PP ref18_Equal_ac (retK ref18_Equal_rs post) (argEnv 0 args) H) : ACalls PP ref18_Equal_id args H post := .enterF Tryd.func15 PP_mix ref18_Equal_comp ha h

/-! emendate.grammar.Format -/
def grammar_Format_kl : Nat → List Nat
  | 0 => [0, 2]
  | 1 => [10, 11]
  | 2 => [1, 12]
  | 3 => [12]
  | 4 => [13]
  | 5 => [14, 15, 16, 17, 18, 19]
  | 6 => [20, 21, 22, 23, 24, 25]
  | 7 => [26, 27, 28, 29, 30, 31, 32, 33, 34]
  | 8 => [35]
  | 10 => [39, 40, 41]
  | 11 => [42, 43, 44, 45, 46, 47, 48]
  | 12 => [49]
  | 14 => [53, 54, 55]
  | 15 => [9, 56, 57, 58, 59, 60, 61]
  | 16 => [62]
  | 17 => [50, 51, 52, 53, 63, 64]
  | 18 => [6, 65, 66, 67, 68, 69, 70, 71]
  | 19 => [6, 7, 65, 72, 73, 74]
  | 20 => [75]
  | 21 => [1, 3, 4, 36, 37, 38, 39, 76]
  | _ => []
def grammar_Format_ow : Nat → Nat → Bool := fun a b => (a == 3 && b == 0) || (a == 5 && b == 1) || (a == 6 && b == 1) || (a == 7 && b == 7) || (a == 11 && b == 6)
def grammar_Format_c0 : AC := .reg [⟨some 1, none, .box (.t 0) 4 25⟩, ⟨some 2, none, .mov (.c (.str []))⟩] [0, 2]
@[simp] theorem grammar_Format_c0_eq : aw PP grammar_Format_c0 K env H = awOps PP [⟨some 1, none, .box (.t 0) 4 25⟩, ⟨some 2, none, .mov (.c (.str []))⟩] (regK K [0, 2]) (panK K) env H := aw_reg _ _
def grammar_Format_c1 : AC := .reg [⟨some 10, none, .ld true 4 (.t 1)⟩, ⟨some 11, none, .call (.c (.fn (.func 12) [] [])) [.t 10]⟩, ⟨some 12, none, .not (.t 11)⟩] [10, 11]
@[simp] theorem grammar_Format_c1_eq : aw PP grammar_Format_c1 K env H = awOps PP [⟨some 10, none, .ld true 4 (.t 1)⟩, ⟨some 11, none, .call (.c (.fn (.func 12) [] [])) [.t 10]⟩, ⟨some 12, none, .not (.t 11)⟩] (regK K [10, 11]) (panK K) env H := aw_reg _ _
def grammar_Format_c2 : AC := .reg [⟨some 2, none, .mov (.c (.str []))⟩] [1, 12]
@[simp] theorem grammar_Format_c2_eq : aw PP grammar_Format_c2 K env H = awOps PP [⟨some 2, none, .mov (.c (.str []))⟩] (regK K [1, 12]) (panK K) env H := aw_reg _ _
def grammar_Format_c3 : AC := .seq grammar_Format_c2 .ret
@[simp] theorem grammar_Format_c3_eq : aw PP grammar_Format_c3 K env H = aw PP grammar_Format_c2 (seqK PP .ret K) env H := aw_seq grammar_Format_c2 .ret
def grammar_Format_c4 : AC := .cond (.t 12) grammar_Format_c3 .skip
@[simp] theorem grammar_Format_c4_eq : aw PP grammar_Format_c4 K env H = condQ PP (Opd.ev env (.t 12)) grammar_Format_c3 .skip K env H := aw_cond _ grammar_Format_c3 .skip
def grammar_Format_c5 : AC := .seq grammar_Format_c1 grammar_Format_c4
@[simp] theorem grammar_Format_c5_eq : aw PP grammar_Format_c5 K env H = aw PP grammar_Format_c1 (seqK PP grammar_Format_c4 K) env H := aw_seq grammar_Format_c1 grammar_Format_c4
def grammar_Format_c6 : AC := .reg [⟨some 3, none, .allb 48 5⟩] [12]
@[simp] theorem grammar_Format_c6_eq : aw PP grammar_Format_c6 K env H = awOps PP [⟨some 3, none, .allb 48 5⟩] (regK K [12]) (panK K) env H := aw_reg _ _
def grammar_Format_c7 : AC := .reg [⟨some 13, none, .mkfn (.func 31) [] [.t 3]⟩, ⟨some 4, none, .mov (.t 13)⟩] [13]
@[simp] theorem grammar_Format_c7_eq : aw PP grammar_Format_c7 K env H = awOps PP [⟨some 13, none, .mkfn (.func 31) [] [.t 3]⟩, ⟨some 4, none, .mov (.t 13)⟩] (regK K [13]) (panK K) env H := aw_reg _ _
def grammar_Format_c8 : AC := .reg [⟨some 14, none, .mov (.t 4)⟩, ⟨some 15, none, .bsl true 9 1 1 (.str []) [(0, .c (.str [116, 101, 114, 109, 115]))]⟩, ⟨some 16, none, .fa 0 0 (.t 1)⟩, ⟨some 17, none, .ld false 1 (.t 16)⟩, ⟨some 18, none, .app 9 1 16 (.t 15) (.t 17)⟩, ⟨some 19, none, .call (.t 14) [.t 18]⟩] [14, 15, 16, 17, 18, 19]
@[simp] theorem grammar_Format_c8_eq : aw PP grammar_Format_c8 K env H = awOps PP [⟨some 14, none, .mov (.t 4)⟩, ⟨some 15, none, .bsl true 9 1 1 (.str []) [(0, .c (.str [116, 101, 114, 109, 115]))]⟩, ⟨some 16, none, .fa 0 0 (.t 1)⟩, ⟨some 17, none, .ld false 1 (.t 16)⟩, ⟨some 18, none, .app 9 1 16 (.t 15) (.t 17)⟩, ⟨some 19, none, .call (.t 14) [.t 18]⟩] (regK K [14, 15, 16, 17, 18, 19]) (panK K) env H := aw_reg _ _
def grammar_Format_c9 : AC := .reg [⟨some 20, none, .mov (.t 4)⟩, ⟨some 21, none, .bsl true 9 1 1 (.str []) [(0, .c (.str [110, 111, 110, 116, 101, 114, 109, 115]))]⟩, ⟨some 22, none, .fa 1 1 (.t 1)⟩, ⟨some 23, none, .ld false 1 (.t 22)⟩, ⟨some 24, none, .app 9 1 16 (.t 21) (.t 23)⟩, ⟨some 25, none, .call (.t 20) [.t 24]⟩] [20, 21, 22, 23, 24, 25]
@[simp] theorem grammar_Format_c9_eq : aw PP grammar_Format_c9 K env H = awOps PP [⟨some 20, none, .mov (.t 4)⟩, ⟨some 21, none, .bsl true 9 1 1 (.str []) [(0, .c (.str [110, 111, 110, 116, 101, 114, 109, 115]))]⟩, ⟨some 22, none, .fa 1 1 (.t 1)⟩, ⟨some 23, none, .ld false 1 (.t 22)⟩, ⟨some 24, none, .app 9 1 16 (.t 21) (.t 23)⟩, ⟨some 25, none, .call (.t 20) [.t 24]⟩] (regK K [20, 21, 22, 23, 24, 25]) (panK K) env H := aw_reg _ _
def grammar_Format_c10 : AC := .reg [⟨some 26, none, .mov (.t 4)⟩, ⟨some 27, none, .fa 1 1 (.t 1)⟩, ⟨some 28, none, .ld false 1 (.t 27)⟩, ⟨some 29, none, .fa 2 2 (.t 1)⟩, ⟨some 30, none, .ld false 1 (.t 29)⟩, ⟨some 31, none, .ixa 1 (.t 28) (.t 30)⟩, ⟨some 32, none, .ld false 1 (.t 31)⟩, ⟨some 33, none, .bsl true 9 1 2 (.str []) [(0, .c (.str [115, 116, 97, 114, 116])), (1, .t 32)]⟩, ⟨some 34, none, .call (.t 26) [.t 33]⟩] [26, 27, 28, 29, 30, 31, 32, 33, 34]
@[simp] theorem grammar_Format_c10_eq : aw PP grammar_Format_c10 K env H = awOps PP [⟨some 26, none, .mov (.t 4)⟩, ⟨some 27, none, .fa 1 1 (.t 1)⟩, ⟨some 28, none, .ld false 1 (.t 27)⟩, ⟨some 29, none, .fa 2 2 (.t 1)⟩, ⟨some 30, none, .ld false 1 (.t 29)⟩, ⟨some 31, none, .ixa 1 (.t 28) (.t 30)⟩, ⟨some 32, none, .ld false 1 (.t 31)⟩, ⟨some 33, none, .bsl true 9 1 2 (.str []) [(0, .c (.str [115, 116, 97, 114, 116])), (1, .t 32)]⟩, ⟨some 34, none, .call (.t 26) [.t 33]⟩] (regK K [26, 27, 28, 29, 30, 31, 32, 33, 34]) (panK K) env H := aw_reg _ _
def grammar_Format_c11 : AC := .reg [⟨some 35, none, .fa 3 3 (.t 1)⟩, ⟨some 36, none, .ld false 1 (.t 35)⟩, ⟨some 37, none, .lenl (.t 36)⟩, ⟨some 38, none, .mov (.c (.int (.i64) 0))⟩] [35]
@[simp] theorem grammar_Format_c11_eq : aw PP grammar_Format_c11 K env H = awOps PP [⟨some 35, none, .fa 3 3 (.t 1)⟩, ⟨some 36, none, .ld false 1 (.t 35)⟩, ⟨some 37, none, .lenl (.t 36)⟩, ⟨some 38, none, .mov (.c (.int (.i64) 0))⟩] (regK K [35]) (panK K) env H := aw_reg _ _
def grammar_Format_c12 : AC := .reg [⟨some 39, none, .bin (.lss) (.t 38) (.t 37)⟩] []
@[simp] theorem grammar_Format_c12_eq : aw PP grammar_Format_c12 K env H = awOps PP [⟨some 39, none, .bin (.lss) (.t 38) (.t 37)⟩] (regK K []) (panK K) env H := aw_reg _ _
def grammar_Format_c13 : AC := .cond (.t 39) .skip (.exit 0)
@[simp] theorem grammar_Format_c13_eq : aw PP grammar_Format_c13 K env H = condQ PP (Opd.ev env (.t 39)) .skip (.exit 0) K env H := aw_cond _ .skip (.exit 0)
def grammar_Format_c14 : AC := .reg [⟨some 40, none, .ixa 3 (.t 36) (.t 38)⟩, ⟨some 41, none, .ld true 3 (.t 40)⟩, ⟨some 6, none, .alloc (.struct [.int (.i64) 0, .nils, .int (.i64) 0]) 36⟩, ⟨none, none, .st 3 (.t 6) (.t 41)⟩] [39, 40, 41]
@[simp] theorem grammar_Format_c14_eq : aw PP grammar_Format_c14 K env H = awOps PP [⟨some 40, none, .ixa 3 (.t 36) (.t 38)⟩, ⟨some 41, none, .ld true 3 (.t 40)⟩, ⟨some 6, none, .alloc (.struct [.int (.i64) 0, .nils, .int (.i64) 0]) 36⟩, ⟨none, none, .st 3 (.t 6) (.t 41)⟩] (regK K [39, 40, 41]) (panK K) env H := aw_reg _ _
def grammar_Format_c15 : AC := .reg [⟨some 42, none, .fa 1 1 (.t 1)⟩, ⟨some 43, none, .ld false 1 (.t 42)⟩, ⟨some 44, none, .fa 0 0 (.t 6)⟩, ⟨some 45, none, .ld false 1 (.t 44)⟩, ⟨some 46, none, .ixa 1 (.t 43) (.t 45)⟩, ⟨some 47, none, .ld false 1 (.t 46)⟩, ⟨some 48, none, .bsl true 9 1 2 (.str []) [(0, .t 47), (1, .c (.str [45, 62]))]⟩, ⟨some 7, none, .mov (.t 48)⟩] [42, 43, 44, 45, 46, 47, 48]
@[simp] theorem grammar_Format_c15_eq : aw PP grammar_Format_c15 K env H = awOps PP [⟨some 42, none, .fa 1 1 (.t 1)⟩, ⟨some 43, none, .ld false 1 (.t 42)⟩, ⟨some 44, none, .fa 0 0 (.t 6)⟩, ⟨some 45, none, .ld false 1 (.t 44)⟩, ⟨some 46, none, .ixa 1 (.t 43) (.t 45)⟩, ⟨some 47, none, .ld false 1 (.t 46)⟩, ⟨some 48, none, .bsl true 9 1 2 (.str []) [(0, .t 47), (1, .c (.str [45, 62]))]⟩, ⟨some 7, none, .mov (.t 48)⟩] (regK K [42, 43, 44, 45, 46, 47, 48]) (panK K) env H := aw_reg _ _
def grammar_Format_c16 : AC := .reg [⟨some 49, none, .fa 1 1 (.t 6)⟩, ⟨some 50, none, .ld false 1 (.t 49)⟩, ⟨some 51, none, .lenl (.t 50)⟩, ⟨some 52, none, .mov (.c (.int (.i64) 0))⟩] [49]
@[simp] theorem grammar_Format_c16_eq : aw PP grammar_Format_c16 K env H = awOps PP [⟨some 49, none, .fa 1 1 (.t 6)⟩, ⟨some 50, none, .ld false 1 (.t 49)⟩, ⟨some 51, none, .lenl (.t 50)⟩, ⟨some 52, none, .mov (.c (.int (.i64) 0))⟩] (regK K [49]) (panK K) env H := aw_reg _ _
def grammar_Format_c17 : AC := .reg [⟨some 53, none, .bin (.lss) (.t 52) (.t 51)⟩] []
@[simp] theorem grammar_Format_c17_eq : aw PP grammar_Format_c17 K env H = awOps PP [⟨some 53, none, .bin (.lss) (.t 52) (.t 51)⟩] (regK K []) (panK K) env H := aw_reg _ _
def grammar_Format_c18 : AC := .cond (.t 53) .skip (.exit 2)
@[simp] theorem grammar_Format_c18_eq : aw PP grammar_Format_c18 K env H = condQ PP (Opd.ev env (.t 53)) .skip (.exit 2) K env H := aw_cond _ .skip (.exit 2)
def grammar_Format_c19 : AC := .reg [⟨some 54, none, .ixa 1 (.t 50) (.t 52)⟩, ⟨some 55, none, .ld false 1 (.t 54)⟩, ⟨some 9, none, .mov (.t 55)⟩] [53, 54, 55]
@[simp] theorem grammar_Format_c19_eq : aw PP grammar_Format_c19 K env H = awOps PP [⟨some 54, none, .ixa 1 (.t 50) (.t 52)⟩, ⟨some 55, none, .ld false 1 (.t 54)⟩, ⟨some 9, none, .mov (.t 55)⟩] (regK K [53, 54, 55]) (panK K) env H := aw_reg _ _
def grammar_Format_c20 : AC := .reg [⟨some 56, none, .mov (.t 7)⟩, ⟨some 57, none, .ld true 4 (.t 1)⟩, ⟨some 58, none, .mov (.t 9)⟩, ⟨some 59, none, .call (.c (.fn (.func 34) [] [])) [.t 57, .t 58]⟩, ⟨some 60, none, .bsl false 9 1 1 (.str []) [(0, .t 59)]⟩, ⟨some 61, none, .app 9 1 16 (.t 56) (.t 60)⟩, ⟨some 7, none, .mov (.t 61)⟩] [9, 56, 57, 58, 59, 60, 61]
@[simp] theorem grammar_Format_c20_eq : aw PP grammar_Format_c20 K env H = awOps PP [⟨some 56, none, .mov (.t 7)⟩, ⟨some 57, none, .ld true 4 (.t 1)⟩, ⟨some 58, none, .mov (.t 9)⟩, ⟨some 59, none, .call (.c (.fn (.func 34) [] [])) [.t 57, .t 58]⟩, ⟨some 60, none, .bsl false 9 1 1 (.str []) [(0, .t 59)]⟩, ⟨some 61, none, .app 9 1 16 (.t 56) (.t 60)⟩, ⟨some 7, none, .mov (.t 61)⟩] (regK K [9, 56, 57, 58, 59, 60, 61]) (panK K) env H := aw_reg _ _
def grammar_Format_c21 : AC := .seq grammar_Format_c19 grammar_Format_c20
@[simp] theorem grammar_Format_c21_eq : aw PP grammar_Format_c21 K env H = aw PP grammar_Format_c19 (seqK PP grammar_Format_c20 K) env H := aw_seq grammar_Format_c19 grammar_Format_c20
def grammar_Format_c22 : AC := .block 3 grammar_Format_c21
@[simp] theorem grammar_Format_c22_eq : aw PP grammar_Format_c22 K env H = aw PP grammar_Format_c21 (blockK 3 K) env H := aw_block _ grammar_Format_c21
def grammar_Format_c23 : AC := .reg [⟨some 62, none, .bin (.add) (.t 52) (.c (.int (.i64) 1))⟩, ⟨some 52, none, .mov (.t 62)⟩] [62]
@[simp] theorem grammar_Format_c23_eq : aw PP grammar_Format_c23 K env H = awOps PP [⟨some 62, none, .bin (.add) (.t 52) (.c (.int (.i64) 1))⟩, ⟨some 52, none, .mov (.t 62)⟩] (regK K [62]) (panK K) env H := aw_reg _ _
def grammar_Format_c24 : AC := .seq grammar_Format_c22 grammar_Format_c23
@[simp] theorem grammar_Format_c24_eq : aw PP grammar_Format_c24 K env H = aw PP grammar_Format_c22 (seqK PP grammar_Format_c23 K) env H := aw_seq grammar_Format_c22 grammar_Format_c23
def grammar_Format_c25 : AC := .seq grammar_Format_c18 grammar_Format_c24
@[simp] theorem grammar_Format_c25_eq : aw PP grammar_Format_c25 K env H = aw PP grammar_Format_c18 (seqK PP grammar_Format_c24 K) env H := aw_seq grammar_Format_c18 grammar_Format_c24
def grammar_Format_c26 : AC := .seq grammar_Format_c17 grammar_Format_c25
@[simp] theorem grammar_Format_c26_eq : aw PP grammar_Format_c26 K env H = aw PP grammar_Format_c17 (seqK PP grammar_Format_c25 K) env H := aw_seq grammar_Format_c17 grammar_Format_c25
def grammar_Format_c27 : AC := .loop grammar_Format_c26
def grammar_Format_c28 : AC := .block 2 grammar_Format_c27
@[simp] theorem grammar_Format_c28_eq : aw PP grammar_Format_c28 K env H = aw PP grammar_Format_c27 (blockK 2 K) env H := aw_block _ grammar_Format_c27
def grammar_Format_c29 : AC := .seq grammar_Format_c16 grammar_Format_c28
@[simp] theorem grammar_Format_c29_eq : aw PP grammar_Format_c29 K env H = aw PP grammar_Format_c16 (seqK PP grammar_Format_c28 K) env H := aw_seq grammar_Format_c16 grammar_Format_c28
def grammar_Format_c30 : AC := .reg [⟨some 63, none, .fa 2 2 (.t 6)⟩, ⟨some 64, none, .ld false 1 (.t 63)⟩, ⟨some 65, none, .bin (.neq) (.t 64) (.c (.int (.i64) 0))⟩] [50, 51, 52, 53, 63, 64]
@[simp] theorem grammar_Format_c30_eq : aw PP grammar_Format_c30 K env H = awOps PP [⟨some 63, none, .fa 2 2 (.t 6)⟩, ⟨some 64, none, .ld false 1 (.t 63)⟩, ⟨some 65, none, .bin (.neq) (.t 64) (.c (.int (.i64) 0))⟩] (regK K [50, 51, 52, 53, 63, 64]) (panK K) env H := aw_reg _ _
def grammar_Format_c31 : AC := .reg [⟨some 66, none, .mov (.t 7)⟩, ⟨some 67, none, .fa 2 2 (.t 6)⟩, ⟨some 68, none, .ld false 1 (.t 67)⟩, ⟨some 69, none, .call (.c (.fn (.func 35) [] [])) [.t 68]⟩, ⟨some 70, none, .bsl false 9 1 2 (.str []) [(0, .c (.str [91, 112, 114, 105, 99, 101, 93])), (1, .t 69)]⟩, ⟨some 71, none, .app 9 1 16 (.t 66) (.t 70)⟩, ⟨some 7, none, .mov (.t 71)⟩] [6, 65, 66, 67, 68, 69, 70, 71]
@[simp] theorem grammar_Format_c31_eq : aw PP grammar_Format_c31 K env H = awOps PP [⟨some 66, none, .mov (.t 7)⟩, ⟨some 67, none, .fa 2 2 (.t 6)⟩, ⟨some 68, none, .ld false 1 (.t 67)⟩, ⟨some 69, none, .call (.c (.fn (.func 35) [] [])) [.t 68]⟩, ⟨some 70, none, .bsl false 9 1 2 (.str []) [(0, .c (.str [91, 112, 114, 105, 99, 101, 93])), (1, .t 69)]⟩, ⟨some 71, none, .app 9 1 16 (.t 66) (.t 70)⟩, ⟨some 7, none, .mov (.t 71)⟩] (regK K [6, 65, 66, 67, 68, 69, 70, 71]) (panK K) env H := aw_reg _ _
def grammar_Format_c32 : AC := .cond (.t 65) grammar_Format_c31 .skip
@[simp] theorem grammar_Format_c32_eq : aw PP grammar_Format_c32 K env H = condQ PP (Opd.ev env (.t 65)) grammar_Format_c31 .skip K env H := aw_cond _ grammar_Format_c31 .skip
def grammar_Format_c33 : AC := .seq grammar_Format_c30 grammar_Format_c32
@[simp] theorem grammar_Format_c33_eq : aw PP grammar_Format_c33 K env H = aw PP grammar_Format_c30 (seqK PP grammar_Format_c32 K) env H := aw_seq grammar_Format_c30 grammar_Format_c32
def grammar_Format_c34 : AC := .reg [⟨some 72, none, .mov (.t 4)⟩, ⟨some 73, none, .mov (.t 7)⟩, ⟨some 74, none, .call (.t 72) [.t 73]⟩] [6, 7, 65, 72, 73, 74]
@[simp] theorem grammar_Format_c34_eq : aw PP grammar_Format_c34 K env H = awOps PP [⟨some 72, none, .mov (.t 4)⟩, ⟨some 73, none, .mov (.t 7)⟩, ⟨some 74, none, .call (.t 72) [.t 73]⟩] (regK K [6, 7, 65, 72, 73, 74]) (panK K) env H := aw_reg _ _
def grammar_Format_c35 : AC := .seq grammar_Format_c33 grammar_Format_c34
@[simp] theorem grammar_Format_c35_eq : aw PP grammar_Format_c35 K env H = aw PP grammar_Format_c33 (seqK PP grammar_Format_c34 K) env H := aw_seq grammar_Format_c33 grammar_Format_c34
def grammar_Format_c36 : AC := .seq grammar_Format_c29 grammar_Format_c35
@[simp] theorem grammar_Format_c36_eq : aw PP grammar_Format_c36 K env H = aw PP grammar_Format_c29 (seqK PP grammar_Format_c35 K) env H := aw_seq grammar_Format_c29 grammar_Format_c35
def grammar_Format_c37 : AC := .seq grammar_Format_c15 grammar_Format_c36
@[simp] theorem grammar_Format_c37_eq : aw PP grammar_Format_c37 K env H = aw PP grammar_Format_c15 (seqK PP grammar_Format_c36 K) env H := aw_seq grammar_Format_c15 grammar_Format_c36
def grammar_Format_c38 : AC := .seq grammar_Format_c14 grammar_Format_c37
@[simp] theorem grammar_Format_c38_eq : aw PP grammar_Format_c38 K env H = aw PP grammar_Format_c14 (seqK PP grammar_Format_c37 K) env H := aw_seq grammar_Format_c14 grammar_Format_c37
def grammar_Format_c39 : AC := .block 1 grammar_Format_c38
@[simp] theorem grammar_Format_c39_eq : aw PP grammar_Format_c39 K env H = aw PP grammar_Format_c38 (blockK 1 K) env H := aw_block _ grammar_Format_c38
def grammar_Format_c40 : AC := .reg [⟨some 75, none, .bin (.add) (.t 38) (.c (.int (.i64) 1))⟩, ⟨some 38, none, .mov (.t 75)⟩] [75]
@[simp] theorem grammar_Format_c40_eq : aw PP grammar_Format_c40 K env H = awOps PP [⟨some 75, none, .bin (.add) (.t 38) (.c (.int (.i64) 1))⟩, ⟨some 38, none, .mov (.t 75)⟩] (regK K [75]) (panK K) env H := aw_reg _ _
def grammar_Format_c41 : AC := .seq grammar_Format_c39 grammar_Format_c40
@[simp] theorem grammar_Format_c41_eq : aw PP grammar_Format_c41 K env H = aw PP grammar_Format_c39 (seqK PP grammar_Format_c40 K) env H := aw_seq grammar_Format_c39 grammar_Format_c40
def grammar_Format_c42 : AC := .seq grammar_Format_c13 grammar_Format_c41
@[simp] theorem grammar_Format_c42_eq : aw PP grammar_Format_c42 K env H = aw PP grammar_Format_c13 (seqK PP grammar_Format_c41 K) env H := aw_seq grammar_Format_c13 grammar_Format_c41
def grammar_Format_c43 : AC := .seq grammar_Format_c12 grammar_Format_c42
@[simp] theorem grammar_Format_c43_eq : aw PP grammar_Format_c43 K env H = aw PP grammar_Format_c12 (seqK PP grammar_Format_c42 K) env H := aw_seq grammar_Format_c12 grammar_Format_c42
def grammar_Format_c44 : AC := .loop grammar_Format_c43
def grammar_Format_c45 : AC := .block 0 grammar_Format_c44
@[simp] theorem grammar_Format_c45_eq : aw PP grammar_Format_c45 K env H = aw PP grammar_Format_c44 (blockK 0 K) env H := aw_block _ grammar_Format_c44
def grammar_Format_c46 : AC := .seq grammar_Format_c11 grammar_Format_c45
@[simp] theorem grammar_Format_c46_eq : aw PP grammar_Format_c46 K env H = aw PP grammar_Format_c11 (seqK PP grammar_Format_c45 K) env H := aw_seq grammar_Format_c11 grammar_Format_c45
def grammar_Format_c47 : AC := .reg [⟨some 76, none, .call (.c (.fn (.func 36) [] [])) [.t 3]⟩, ⟨some 2, none, .mov (.t 76)⟩] [1, 3, 4, 36, 37, 38, 39, 76]
@[simp] theorem grammar_Format_c47_eq : aw PP grammar_Format_c47 K env H = awOps PP [⟨some 76, none, .call (.c (.fn (.func 36) [] [])) [.t 3]⟩, ⟨some 2, none, .mov (.t 76)⟩] (regK K [1, 3, 4, 36, 37, 38, 39, 76]) (panK K) env H := aw_reg _ _
def grammar_Format_c48 : AC := .seq grammar_Format_c47 .ret
@[simp] theorem grammar_Format_c48_eq : aw PP grammar_Format_c48 K env H = aw PP grammar_Format_c47 (seqK PP .ret K) env H := aw_seq grammar_Format_c47 .ret
def grammar_Format_c49 : AC := .seq grammar_Format_c46 grammar_Format_c48
@[simp] theorem grammar_Format_c49_eq : aw PP grammar_Format_c49 K env H = aw PP grammar_Format_c46 (seqK PP grammar_Format_c48 K) env H := aw_seq grammar_Format_c46 grammar_Format_c48
def grammar_Format_c50 : AC := .seq grammar_Format_c10 grammar_Format_c49
@[simp] theorem grammar_Format_c50_eq : aw PP grammar_Format_c50 K env H = aw PP grammar_Format_c10 (seqK PP grammar_Format_c49 K) env H := aw_seq grammar_Format_c10 grammar_Format_c49
def grammar_Format_c51 : AC := .seq grammar_Format_c9 grammar_Format_c50
@[simp] theorem grammar_Format_c51_eq : aw PP grammar_Format_c51 K env H = aw PP grammar_Format_c9 (seqK PP grammar_Format_c50 K) env H := aw_seq grammar_Format_c9 grammar_Format_c50
def grammar_Format_c52 : AC := .seq grammar_Format_c8 grammar_Format_c51
@[simp] theorem grammar_Format_c52_eq : aw PP grammar_Format_c52 K env H = aw PP grammar_Format_c8 (seqK PP grammar_Format_c51 K) env H := aw_seq grammar_Format_c8 grammar_Format_c51
def grammar_Format_c53 : AC := .seq grammar_Format_c7 grammar_Format_c52
@[simp] theorem grammar_Format_c53_eq : aw PP grammar_Format_c53 K env H = aw PP grammar_Format_c7 (seqK PP grammar_Format_c52 K) env H := aw_seq grammar_Format_c7 grammar_Format_c52
def grammar_Format_c54 : AC := .seq grammar_Format_c6 grammar_Format_c53
@[simp] theorem grammar_Format_c54_eq : aw PP grammar_Format_c54 K env H = aw PP grammar_Format_c6 (seqK PP grammar_Format_c53 K) env H := aw_seq grammar_Format_c6 grammar_Format_c53
def grammar_Format_c55 : AC := .seq grammar_Format_c5 grammar_Format_c54
@[simp] theorem grammar_Format_c55_eq : aw PP grammar_Format_c55 K env H = aw PP grammar_Format_c5 (seqK PP grammar_Format_c54 K) env H := aw_seq grammar_Format_c5 grammar_Format_c54
def grammar_Format_c56 : AC := .seq grammar_Format_c0 grammar_Format_c55
@[simp] theorem grammar_Format_c56_eq : aw PP grammar_Format_c56 K env H = aw PP grammar_Format_c0 (seqK PP grammar_Format_c55 K) env H := aw_seq grammar_Format_c0 grammar_Format_c55
def grammar_Format_ac : AC := grammar_Format_c56
@[simp] theorem grammar_Format_ac_eq : aw PP grammar_Format_ac K env H = aw PP grammar_Format_c56 K env H := Eq.trans rfl rfl
def grammar_Format_rs : List ARV := [.tmp 2]
abbrev grammar_Format_id : Nat := 16
theorem grammar_Format_comp : compF PP grammar_Format_kl grammar_Format_ow 1 Tryd.f16 = some (grammar_Format_ac, grammar_Format_rs) := by kernel_rfl
theorem grammar_Format_enter {args : List AV} {H : AHeap} {post : ARes → AHeap → Prop} (ha : args.length = 1) (h : aw PP grammar_Format_ac (retK grammar_Format_rs post) (argEnv 0 args) H) : ACalls PP grammar_Format_id args H post := .enterF Tryd.func16 PP_mix grammar_Format_comp ha h

/-! emendate.emendateref18.Format -/
def ref18_Format_kl : Nat → List Nat
  | 0 => [0, 2]
  | 1 => [7, 8]
  | 2 => [1, 9]
  | 3 => [9, 10, 11, 12, 13, 14, 15, 16, 17, 18, 19, 20, 21, 22, 23, 24, 25, 26, 27]
  | 5 => [28, 29, 30, 31]
  | 6 => [33, 34]
  | 7 => [32, 35, 36, 37, 38, 39]
  | 8 => [40, 41, 42, 43, 44, 45, 46, 47, 48]
  | 10 => [49, 50, 51, 52]
  | 11 => [54, 55]
  | 12 => [53, 56, 57, 58, 59, 60]
  | 13 => [61, 62, 63, 64, 65, 66, 67, 68, 69, 70, 71, 72, 73]
  | 14 => [61, 74, 75, 76, 77, 78, 79, 80, 81, 82, 83, 84, 85, 86]
  | 15 => [6, 53, 87, 88]
  | 16 => [5, 89, 90, 91, 92, 93, 94, 95]
  | 17 => [5, 89, 96, 97]
  | 18 => [1, 3, 4, 32, 98]
  | _ => []
def ref18_Format_ow : Nat → Nat → Bool := fun _ _ => false
def ref18_Format_c0 : AC := .reg [⟨some 1, none, .box (.t 0) 4 25⟩, ⟨some 2, none, .mov (.c (.str []))⟩] [0, 2]
@[simp] theorem ref18_Format_c0_eq : aw PP ref18_Format_c0 K env H = awOps PP [⟨some 1, none, .box (.t 0) 4 25⟩, ⟨some 2, none, .mov (.c (.str []))⟩] (regK K [0, 2]) (panK K) env H := aw_reg _ _
def ref18_Format_c1 : AC := .reg [⟨some 7, none, .ld true 4 (.t 1)⟩, ⟨some 8, none, .call (.c (.fn (.func 13) [] [])) [.t 7]⟩, ⟨some 9, none, .not (.t 8)⟩] [7, 8]
@[simp] theorem ref18_Format_c1_eq : aw PP ref18_Format_c1 K env H = awOps PP [⟨some 7, none, .ld true 4 (.t 1)⟩, ⟨some 8, none, .call (.c (.fn (.func 13) [] [])) [.t 7]⟩, ⟨some 9, none, .not (.t 8)⟩] (regK K [7, 8]) (panK K) env H := aw_reg _ _
def ref18_Format_c2 : AC := .reg [⟨some 2, none, .mov (.c (.str []))⟩] [1, 9]
@[simp] theorem ref18_Format_c2_eq : aw PP ref18_Format_c2 K env H = awOps PP [⟨some 2, none, .mov (.c (.str []))⟩] (regK K [1, 9]) (panK K) env H := aw_reg _ _
def ref18_Format_c3 : AC := .seq ref18_Format_c2 .ret
@[simp] theorem ref18_Format_c3_eq : aw PP ref18_Format_c3 K env H = aw PP ref18_Format_c2 (seqK PP .ret K) env H := aw_seq ref18_Format_c2 .ret
def ref18_Format_c4 : AC := .cond (.t 9) ref18_Format_c3 .skip
@[simp] theorem ref18_Format_c4_eq : aw PP ref18_Format_c4 K env H = condQ PP (Opd.ev env (.t 9)) ref18_Format_c3 .skip K env H := aw_cond _ ref18_Format_c3 .skip
def ref18_Format_c5 : AC := .seq ref18_Format_c1 ref18_Format_c4
@[simp] theorem ref18_Format_c5_eq : aw PP ref18_Format_c5 K env H = aw PP ref18_Format_c1 (seqK PP ref18_Format_c4 K) env H := aw_seq ref18_Format_c1 ref18_Format_c4
def ref18_Format_c6_ops : List (AI × List Nat) := [(⟨some 10, none, .fa 0 0 (.t 1)⟩, []), (⟨some 11, none, .ld false 1 (.t 10)⟩, [0]), (⟨some 12, none, .call (.c (.fn (.func 37) [] [])) [.t 11]⟩, [1]), (⟨some 13, none, .bin (.add) (.c (.str [116, 101, 114, 109, 115])) (.t 12)⟩, [2]), (⟨some 14, none, .bin (.add) (.t 13) (.c (.str [10, 110, 111, 110, 116, 101, 114, 109, 115]))⟩, [3]), (⟨some 15, none, .fa 1 1 (.t 1)⟩, []), (⟨some 16, none, .ld false 1 (.t 15)⟩, [5]), (⟨some 17, none, .call (.c (.fn (.func 37) [] [])) [.t 16]⟩, [6, 2]), (⟨some 18, none, .bin (.add) (.t 14) (.t 17)⟩, [4, 7]), (⟨some 19, none, .bin (.add) (.t 18) (.c (.str [10, 115, 116, 97, 114, 116, 32]))⟩, [8]), (⟨some 20, none, .fa 1 1 (.t 1)⟩, []), (⟨some 21, none, .ld false 1 (.t 20)⟩, [10]), (⟨some 22, none, .fa 2 2 (.t 1)⟩, []), (⟨some 23, none, .ld false 1 (.t 22)⟩, [12]), (⟨some 24, none, .ixa 1 (.t 21) (.t 23)⟩, [11, 13]), (⟨some 25, none, .ld false 1 (.t 24)⟩, [14]), (⟨some 26, none, .bin (.add) (.t 19) (.t 25)⟩, [9, 15]), (⟨some 27, none, .bin (.add) (.t 26) (.c (.str [10]))⟩, [16]), (⟨some 3, none, .mov (.t 27)⟩, [17, 7, 0, 1, 2, 3, 4, 5, 6, 7, 8, 9, 10, 11, 12, 13, 14, 15, 16, 17])]
def ref18_Format_c6 : AC := .dreg ref18_Format_c6_ops [9, 10, 11, 12, 13, 14, 15, 16, 17, 18, 19, 20, 21, 22, 23, 24, 25, 26, 27]
theorem ref18_Format_c6_ok : lexOK ref18_Format_c6_ops (fun i => [].contains i) = true := by kernel_rfl
theorem ref18_Format_c6_lex (h : awLex PP (fun i => [].contains i) (regK K [9, 10, 11, 12, 13, 14, 15, 16, 17, 18, 19, 20, 21, 22, 23, 24, 25, 26, 27]) (panK K) [(0, ⟨some 10, none, .fa 0 0 (.t 1)⟩), (1, ⟨some 11, none, .ld false 1 (.t 10)⟩), (2, ⟨some 12, none, .call (.c (.fn (.func 37) [] [])) [.t 11]⟩), (3, ⟨some 13, none, .bin (.add) (.c (.str [116, 101, 114, 109, 115])) (.t 12)⟩), (4, ⟨some 14, none, .bin (.add) (.t 13) (.c (.str [10, 110, 111, 110, 116, 101, 114, 109, 115]))⟩), (5, ⟨some 15, none, .fa 1 1 (.t 1)⟩), (6, ⟨some 16, none, .ld false 1 (.t 15)⟩), (7, ⟨some 17, none, .call (.c (.fn (.func 37) [] [])) [.t 16]⟩), (8, ⟨some 18, none, .bin (.add) (.t 14) (.t 17)⟩), (9, ⟨some 19, none, .bin (.add) (.t 18) (.c (.str [10, 115, 116, 97, 114, 116, 32]))⟩), (10, ⟨some 20, none, .fa 1 1 (.t 1)⟩), (11, ⟨some 21, none, .ld false 1 (.t 20)⟩), (12, ⟨some 22, none, .fa 2 2 (.t 1)⟩), (13, ⟨some 23, none, .ld false 1 (.t 22)⟩), (14, ⟨some 24, none, .ixa 1 (.t 21) (.t 23)⟩), (15, ⟨some 25, none, .ld false 1 (.t 24)⟩), (16, ⟨some 26, none, .bin (.add) (.t 19) (.t 25)⟩), (17, ⟨some 27, none, .bin (.add) (.t 26) (.c (.str [10]))⟩), (18, ⟨some 3, none, .mov (.t 27)⟩)] env H) : aw PP ref18_Format_c6 K env H := aw_dreg_lex _ ref18_Format_c6_ok h
def ref18_Format_c7 : AC := .reg [⟨some 4, none, .mov (.c (.int (.i64) 0))⟩] []
@[simp] theorem ref18_Format_c7_eq : aw PP ref18_Format_c7 K env H = awOps PP [⟨some 4, none, .mov (.c (.int (.i64) 0))⟩] (regK K []) (panK K) env H := aw_reg _ _
def ref18_Format_c8 : AC := .reg [⟨some 28, none, .mov (.t 4)⟩, ⟨some 29, none, .fa 3 3 (.t 1)⟩, ⟨some 30, none, .ld false 1 (.t 29)⟩, ⟨some 31, none, .lenl (.t 30)⟩, ⟨some 32, none, .bin (.lss) (.t 28) (.t 31)⟩] [28, 29, 30, 31]
@[simp] theorem ref18_Format_c8_eq : aw PP ref18_Format_c8 K env H = awOps PP [⟨some 28, none, .mov (.t 4)⟩, ⟨some 29, none, .fa 3 3 (.t 1)⟩, ⟨some 30, none, .ld false 1 (.t 29)⟩, ⟨some 31, none, .lenl (.t 30)⟩, ⟨some 32, none, .bin (.lss) (.t 28) (.t 31)⟩] (regK K [28, 29, 30, 31]) (panK K) env H := aw_reg _ _
def ref18_Format_c9 : AC := .cond (.t 32) .skip (.exit 0)
@[simp] theorem ref18_Format_c9_eq : aw PP ref18_Format_c9 K env H = condQ PP (Opd.ev env (.t 32)) .skip (.exit 0) K env H := aw_cond _ .skip (.exit 0)
def ref18_Format_c10 : AC := .seq ref18_Format_c8 ref18_Format_c9
@[simp] theorem ref18_Format_c10_eq : aw PP ref18_Format_c10 K env H = aw PP ref18_Format_c8 (seqK PP ref18_Format_c9 K) env H := aw_seq ref18_Format_c8 ref18_Format_c9
def ref18_Format_c11 : AC := .reg [⟨some 35, none, .fa 3 3 (.t 1)⟩, ⟨some 36, none, .ld false 1 (.t 35)⟩, ⟨some 37, none, .mov (.t 4)⟩, ⟨some 38, none, .ixa 3 (.t 36) (.t 37)⟩, ⟨some 39, none, .ld true 3 (.t 38)⟩, ⟨some 5, none, .alloc (.struct [.int (.i64) 0, .nils, .int (.i64) 0]) 36⟩, ⟨none, none, .st 3 (.t 5) (.t 39)⟩] [32, 35, 36, 37, 38, 39]
@[simp] theorem ref18_Format_c11_eq : aw PP ref18_Format_c11 K env H = awOps PP [⟨some 35, none, .fa 3 3 (.t 1)⟩, ⟨some 36, none, .ld false 1 (.t 35)⟩, ⟨some 37, none, .mov (.t 4)⟩, ⟨some 38, none, .ixa 3 (.t 36) (.t 37)⟩, ⟨some 39, none, .ld true 3 (.t 38)⟩, ⟨some 5, none, .alloc (.struct [.int (.i64) 0, .nils, .int (.i64) 0]) 36⟩, ⟨none, none, .st 3 (.t 5) (.t 39)⟩] (regK K [32, 35, 36, 37, 38, 39]) (panK K) env H := aw_reg _ _
def ref18_Format_c12 : AC := .reg [⟨some 40, none, .mov (.t 3)⟩, ⟨some 41, none, .fa 1 1 (.t 1)⟩, ⟨some 42, none, .ld false 1 (.t 41)⟩, ⟨some 43, none, .fa 0 0 (.t 5)⟩, ⟨some 44, none, .ld false 1 (.t 43)⟩, ⟨some 45, none, .ixa 1 (.t 42) (.t 44)⟩, ⟨some 46, none, .ld false 1 (.t 45)⟩, ⟨some 47, none, .bin (.add) (.t 40) (.t 46)⟩, ⟨some 48, none, .bin (.add) (.t 47) (.c (.str [32, 45, 62]))⟩, ⟨some 3, none, .mov (.t 48)⟩] [40, 41, 42, 43, 44, 45, 46, 47, 48]
@[simp] theorem ref18_Format_c12_eq : aw PP ref18_Format_c12 K env H = awOps PP [⟨some 40, none, .mov (.t 3)⟩, ⟨some 41, none, .fa 1 1 (.t 1)⟩, ⟨some 42, none, .ld false 1 (.t 41)⟩, ⟨some 43, none, .fa 0 0 (.t 5)⟩, ⟨some 44, none, .ld false 1 (.t 43)⟩, ⟨some 45, none, .ixa 1 (.t 42) (.t 44)⟩, ⟨some 46, none, .ld false 1 (.t 45)⟩, ⟨some 47, none, .bin (.add) (.t 40) (.t 46)⟩, ⟨some 48, none, .bin (.add) (.t 47) (.c (.str [32, 45, 62]))⟩, ⟨some 3, none, .mov (.t 48)⟩] (regK K [40, 41, 42, 43, 44, 45, 46, 47, 48]) (panK K) env H := aw_reg _ _
def ref18_Format_c13 : AC := .reg [⟨some 6, none, .mov (.c (.int (.i64) 0))⟩] []
@[simp] theorem ref18_Format_c13_eq : aw PP ref18_Format_c13 K env H = awOps PP [⟨some 6, none, .mov (.c (.int (.i64) 0))⟩] (regK K []) (panK K) env H := aw_reg _ _
def ref18_Format_c14 : AC := .reg [⟨some 49, none, .mov (.t 6)⟩, ⟨some 50, none, .fa 1 1 (.t 5)⟩, ⟨some 51, none, .ld false 1 (.t 50)⟩, ⟨some 52, none, .lenl (.t 51)⟩, ⟨some 53, none, .bin (.lss) (.t 49) (.t 52)⟩] [49, 50, 51, 52]
@[simp] theorem ref18_Format_c14_eq : aw PP ref18_Format_c14 K env H = awOps PP [⟨some 49, none, .mov (.t 6)⟩, ⟨some 50, none, .fa 1 1 (.t 5)⟩, ⟨some 51, none, .ld false 1 (.t 50)⟩, ⟨some 52, none, .lenl (.t 51)⟩, ⟨some 53, none, .bin (.lss) (.t 49) (.t 52)⟩] (regK K [49, 50, 51, 52]) (panK K) env H := aw_reg _ _
def ref18_Format_c15 : AC := .cond (.t 53) .skip (.exit 2)
@[simp] theorem ref18_Format_c15_eq : aw PP ref18_Format_c15 K env H = condQ PP (Opd.ev env (.t 53)) .skip (.exit 2) K env H := aw_cond _ .skip (.exit 2)
def ref18_Format_c16 : AC := .seq ref18_Format_c14 ref18_Format_c15
@[simp] theorem ref18_Format_c16_eq : aw PP ref18_Format_c16 K env H = aw PP ref18_Format_c14 (seqK PP ref18_Format_c15 K) env H := aw_seq ref18_Format_c14 ref18_Format_c15
def ref18_Format_c17 : AC := .reg [⟨some 56, none, .fa 1 1 (.t 5)⟩, ⟨some 57, none, .ld false 1 (.t 56)⟩, ⟨some 58, none, .mov (.t 6)⟩, ⟨some 59, none, .ixa 1 (.t 57) (.t 58)⟩, ⟨some 60, none, .ld false 1 (.t 59)⟩, ⟨some 61, none, .bin (.geq) (.t 60) (.c (.int (.i64) 0))⟩] [53, 56, 57, 58, 59, 60]
@[simp] theorem ref18_Format_c17_eq : aw PP ref18_Format_c17 K env H = awOps PP [⟨some 56, none, .fa 1 1 (.t 5)⟩, ⟨some 57, none, .ld false 1 (.t 56)⟩, ⟨some 58, none, .mov (.t 6)⟩, ⟨some 59, none, .ixa 1 (.t 57) (.t 58)⟩, ⟨some 60, none, .ld false 1 (.t 59)⟩, ⟨some 61, none, .bin (.geq) (.t 60) (.c (.int (.i64) 0))⟩] (regK K [53, 56, 57, 58, 59, 60]) (panK K) env H := aw_reg _ _
def ref18_Format_c18_ops : List (AI × List Nat) := [(⟨some 62, none, .mov (.t 3)⟩, []), (⟨some 63, none, .bin (.add) (.t 62) (.c (.str [32]))⟩, [0]), (⟨some 64, none, .fa 0 0 (.t 1)⟩, []), (⟨some 65, none, .ld false 1 (.t 64)⟩, [2]), (⟨some 66, none, .fa 1 1 (.t 5)⟩, []), (⟨some 67, none, .ld false 1 (.t 66)⟩, [4]), (⟨some 68, none, .mov (.t 6)⟩, []), (⟨some 69, none, .ixa 1 (.t 67) (.t 68)⟩, [5, 6]), (⟨some 70, none, .ld false 1 (.t 69)⟩, [7]), (⟨some 71, none, .ixa 1 (.t 65) (.t 70)⟩, [3, 8]), (⟨some 72, none, .ld false 1 (.t 71)⟩, [9]), (⟨some 73, none, .bin (.add) (.t 63) (.t 72)⟩, [1, 10]), (⟨some 3, none, .mov (.t 73)⟩, [11, 0, 1, 2, 3, 4, 5, 6, 7, 8, 9, 10, 11])]
def ref18_Format_c18 : AC := .dreg ref18_Format_c18_ops [61, 62, 63, 64, 65, 66, 67, 68, 69, 70, 71, 72, 73]
theorem ref18_Format_c18_ok : lexOK ref18_Format_c18_ops (fun i => [].contains i) = true := by kernel_rfl
theorem ref18_Format_c18_lex (h : awLex PP (fun i => [].contains i) (regK K [61, 62, 63, 64, 65, 66, 67, 68, 69, 70, 71, 72, 73]) (panK K) [(0, ⟨some 62, none, .mov (.t 3)⟩), (1, ⟨some 63, none, .bin (.add) (.t 62) (.c (.str [32]))⟩), (2, ⟨some 64, none, .fa 0 0 (.t 1)⟩), (3, ⟨some 65, none, .ld false 1 (.t 64)⟩), (4, ⟨some 66, none, .fa 1 1 (.t 5)⟩), (5, ⟨some 67, none, .ld false 1 (.t 66)⟩), (6, ⟨some 68, none, .mov (.t 6)⟩), (7, ⟨some 69, none, .ixa 1 (.t 67) (.t 68)⟩), (8, ⟨some 70, none, .ld false 1 (.t 69)⟩), (9, ⟨some 71, none, .ixa 1 (.t 65) (.t 70)⟩), (10, ⟨some 72, none, .ld false 1 (.t 71)⟩), (11, ⟨some 73, none, .bin (.add) (.t 63) (.t 72)⟩), (12, ⟨some 3, none, .mov (.t 73)⟩)] env H) : aw PP ref18_Format_c18 K env H := aw_dreg_lex _ ref18_Format_c18_ok h
def ref18_Format_c19_ops : List (AI × List Nat) := [(⟨some 74, none, .mov (.t 3)⟩, []), (⟨some 75, none, .bin (.add) (.t 74) (.c (.str [32]))⟩, [0]), (⟨some 76, none, .fa 1 1 (.t 1)⟩, []), (⟨some 77, none, .ld false 1 (.t 76)⟩, [2]), (⟨some 78, none, .fa 1 1 (.t 5)⟩, []), (⟨some 79, none, .ld false 1 (.t 78)⟩, [4]), (⟨some 80, none, .mov (.t 6)⟩, []), (⟨some 81, none, .ixa 1 (.t 79) (.t 80)⟩, [5, 6]), (⟨some 82, none, .ld false 1 (.t 81)⟩, [7]), (⟨some 83, none, .bin (.sub) (.c (.int (.i64) (-1))) (.t 82)⟩, [8]), (⟨some 84, none, .ixa 1 (.t 77) (.t 83)⟩, [3, 9]), (⟨some 85, none, .ld false 1 (.t 84)⟩, [10]), (⟨some 86, none, .bin (.add) (.t 75) (.t 85)⟩, [1, 11]), (⟨some 3, none, .mov (.t 86)⟩, [12, 0, 1, 2, 3, 4, 5, 6, 7, 8, 9, 10, 11, 12])]
def ref18_Format_c19 : AC := .dreg ref18_Format_c19_ops [61, 74, 75, 76, 77, 78, 79, 80, 81, 82, 83, 84, 85, 86]
theorem ref18_Format_c19_ok : lexOK ref18_Format_c19_ops (fun i => [].contains i) = true := by kernel_rfl
theorem ref18_Format_c19_lex (h : awLex PP (fun i => [].contains i) (regK K [61, 74, 75, 76, 77, 78, 79, 80, 81, 82, 83, 84, 85, 86]) (panK K) [(0, ⟨some 74, none, .mov (.t 3)⟩), (1, ⟨some 75, none, .bin (.add) (.t 74) (.c (.str [32]))⟩), (2, ⟨some 76, none, .fa 1 1 (.t 1)⟩), (3, ⟨some 77, none, .ld false 1 (.t 76)⟩), (4, ⟨some 78, none, .fa 1 1 (.t 5)⟩), (5, ⟨some 79, none, .ld false 1 (.t 78)⟩), (6, ⟨some 80, none, .mov (.t 6)⟩), (7, ⟨some 81, none, .ixa 1 (.t 79) (.t 80)⟩), (8, ⟨some 82, none, .ld false 1 (.t 81)⟩), (9, ⟨some 83, none, .bin (.sub) (.c (.int (.i64) (-1))) (.t 82)⟩), (10, ⟨some 84, none, .ixa 1 (.t 77) (.t 83)⟩), (11, ⟨some 85, none, .ld false 1 (.t 84)⟩), (12, ⟨some 86, none, .bin (.add) (.t 75) (.t 85)⟩), (13, ⟨some 3, none, .mov (.t 86)⟩)] env H) : aw PP ref18_Format_c19 K env H := aw_dreg_lex _ ref18_Format_c19_ok h
def ref18_Format_c20 : AC := .cond (.t 61) ref18_Format_c18 ref18_Format_c19
@[simp] theorem ref18_Format_c20_eq : aw PP ref18_Format_c20 K env H = condQ PP (Opd.ev env (.t 61)) ref18_Format_c18 ref18_Format_c19 K env H := aw_cond _ ref18_Format_c18 ref18_Format_c19
def ref18_Format_c21 : AC := .seq ref18_Format_c17 ref18_Format_c20
@[simp] theorem ref18_Format_c21_eq : aw PP ref18_Format_c21 K env H = aw PP ref18_Format_c17 (seqK PP ref18_Format_c20 K) env H := aw_seq ref18_Format_c17 ref18_Format_c20
def ref18_Format_c22 : AC := .block 3 ref18_Format_c21
@[simp] theorem ref18_Format_c22_eq : aw PP ref18_Format_c22 K env H = aw PP ref18_Format_c21 (blockK 3 K) env H := aw_block _ ref18_Format_c21
def ref18_Format_c23 : AC := .reg [⟨some 54, none, .mov (.t 6)⟩, ⟨some 55, none, .bin (.add) (.t 54) (.c (.int (.i64) 1))⟩, ⟨some 6, none, .mov (.t 55)⟩] [54, 55]
@[simp] theorem ref18_Format_c23_eq : aw PP ref18_Format_c23 K env H = awOps PP [⟨some 54, none, .mov (.t 6)⟩, ⟨some 55, none, .bin (.add) (.t 54) (.c (.int (.i64) 1))⟩, ⟨some 6, none, .mov (.t 55)⟩] (regK K [54, 55]) (panK K) env H := aw_reg _ _
def ref18_Format_c24 : AC := .seq ref18_Format_c22 ref18_Format_c23
@[simp] theorem ref18_Format_c24_eq : aw PP ref18_Format_c24 K env H = aw PP ref18_Format_c22 (seqK PP ref18_Format_c23 K) env H := aw_seq ref18_Format_c22 ref18_Format_c23
def ref18_Format_c25 : AC := .seq ref18_Format_c16 ref18_Format_c24
@[simp] theorem ref18_Format_c25_eq : aw PP ref18_Format_c25 K env H = aw PP ref18_Format_c16 (seqK PP ref18_Format_c24 K) env H := aw_seq ref18_Format_c16 ref18_Format_c24
def ref18_Format_c26 : AC := .loop ref18_Format_c25
def ref18_Format_c27 : AC := .block 2 ref18_Format_c26
@[simp] theorem ref18_Format_c27_eq : aw PP ref18_Format_c27 K env H = aw PP ref18_Format_c26 (blockK 2 K) env H := aw_block _ ref18_Format_c26
def ref18_Format_c28 : AC := .seq ref18_Format_c13 ref18_Format_c27
@[simp] theorem ref18_Format_c28_eq : aw PP ref18_Format_c28 K env H = aw PP ref18_Format_c13 (seqK PP ref18_Format_c27 K) env H := aw_seq ref18_Format_c13 ref18_Format_c27
def ref18_Format_c29 : AC := .reg [⟨some 87, none, .fa 2 2 (.t 5)⟩, ⟨some 88, none, .ld false 1 (.t 87)⟩, ⟨some 89, none, .bin (.gtr) (.t 88) (.c (.int (.i64) 0))⟩] [6, 53, 87, 88]
@[simp] theorem ref18_Format_c29_eq : aw PP ref18_Format_c29 K env H = awOps PP [⟨some 87, none, .fa 2 2 (.t 5)⟩, ⟨some 88, none, .ld false 1 (.t 87)⟩, ⟨some 89, none, .bin (.gtr) (.t 88) (.c (.int (.i64) 0))⟩] (regK K [6, 53, 87, 88]) (panK K) env H := aw_reg _ _
def ref18_Format_c30 : AC := .reg [⟨some 90, none, .mov (.t 3)⟩, ⟨some 91, none, .bin (.add) (.t 90) (.c (.str [32, 91, 112, 114, 105, 99, 101, 93, 32]))⟩, ⟨some 92, none, .fa 2 2 (.t 5)⟩, ⟨some 93, none, .ld false 1 (.t 92)⟩, ⟨some 94, none, .call (.c (.fn (.func 35) [] [])) [.t 93]⟩, ⟨some 95, none, .bin (.add) (.t 91) (.t 94)⟩, ⟨some 3, none, .mov (.t 95)⟩] [5, 89, 90, 91, 92, 93, 94, 95]
@[simp] theorem ref18_Format_c30_eq : aw PP ref18_Format_c30 K env H = awOps PP [⟨some 90, none, .mov (.t 3)⟩, ⟨some 91, none, .bin (.add) (.t 90) (.c (.str [32, 91, 112, 114, 105, 99, 101, 93, 32]))⟩, ⟨some 92, none, .fa 2 2 (.t 5)⟩, ⟨some 93, none, .ld false 1 (.t 92)⟩, ⟨some 94, none, .call (.c (.fn (.func 35) [] [])) [.t 93]⟩, ⟨some 95, none, .bin (.add) (.t 91) (.t 94)⟩, ⟨some 3, none, .mov (.t 95)⟩] (regK K [5, 89, 90, 91, 92, 93, 94, 95]) (panK K) env H := aw_reg _ _
def ref18_Format_c31 : AC := .cond (.t 89) ref18_Format_c30 .skip
@[simp] theorem ref18_Format_c31_eq : aw PP ref18_Format_c31 K env H = condQ PP (Opd.ev env (.t 89)) ref18_Format_c30 .skip K env H := aw_cond _ ref18_Format_c30 .skip
def ref18_Format_c32 : AC := .seq ref18_Format_c29 ref18_Format_c31
@[simp] theorem ref18_Format_c32_eq : aw PP ref18_Format_c32 K env H = aw PP ref18_Format_c29 (seqK PP ref18_Format_c31 K) env H := aw_seq ref18_Format_c29 ref18_Format_c31
def ref18_Format_c33 : AC := .reg [⟨some 96, none, .mov (.t 3)⟩, ⟨some 97, none, .bin (.add) (.t 96) (.c (.str [10]))⟩, ⟨some 3, none, .mov (.t 97)⟩] [5, 89, 96, 97]
@[simp] theorem ref18_Format_c33_eq : aw PP ref18_Format_c33 K env H = awOps PP [⟨some 96, none, .mov (.t 3)⟩, ⟨some 97, none, .bin (.add) (.t 96) (.c (.str [10]))⟩, ⟨some 3, none, .mov (.t 97)⟩] (regK K [5, 89, 96, 97]) (panK K) env H := aw_reg _ _
def ref18_Format_c34 : AC := .seq ref18_Format_c32 ref18_Format_c33
@[simp] theorem ref18_Format_c34_eq : aw PP ref18_Format_c34 K env H = aw PP ref18_Format_c32 (seqK PP ref18_Format_c33 K) env H := aw_seq ref18_Format_c32 ref18_Format_c33
def ref18_Format_c35 : AC := .seq ref18_Format_c28 ref18_Format_c34
@[simp] theorem ref18_Format_c35_eq : aw PP ref18_Format_c35 K env H = aw PP ref18_Format_c28 (seqK PP ref18_Format_c34 K) env H := aw_seq ref18_Format_c28 ref18_Format_c34
def ref18_Format_c36 : AC := .seq ref18_Format_c12 ref18_Format_c35
@[simp] theorem ref18_Format_c36_eq : aw PP ref18_Format_c36 K env H = aw PP ref18_Format_c12 (seqK PP ref18_Format_c35 K) env H := aw_seq ref18_Format_c12 ref18_Format_c35
def ref18_Format_c37 : AC := .seq ref18_Format_c11 ref18_Format_c36
@[simp] theorem ref18_Format_c37_eq : aw PP ref18_Format_c37 K env H = aw PP ref18_Format_c11 (seqK PP ref18_Format_c36 K) env H := aw_seq ref18_Format_c11 ref18_Format_c36
def ref18_Format_c38 : AC := .block 1 ref18_Format_c37
@[simp] theorem ref18_Format_c38_eq : aw PP ref18_Format_c38 K env H = aw PP ref18_Format_c37 (blockK 1 K) env H := aw_block _ ref18_Format_c37
def ref18_Format_c39 : AC := .reg [⟨some 33, none, .mov (.t 4)⟩, ⟨some 34, none, .bin (.add) (.t 33) (.c (.int (.i64) 1))⟩, ⟨some 4, none, .mov (.t 34)⟩] [33, 34]
@[simp] theorem ref18_Format_c39_eq : aw PP ref18_Format_c39 K env H = awOps PP [⟨some 33, none, .mov (.t 4)⟩, ⟨some 34, none, .bin (.add) (.t 33) (.c (.int (.i64) 1))⟩, ⟨some 4, none, .mov (.t 34)⟩] (regK K [33, 34]) (panK K) env H := aw_reg _ _
def ref18_Format_c40 : AC := .seq ref18_Format_c38 ref18_Format_c39
@[simp] theorem ref18_Format_c40_eq : aw PP ref18_Format_c40 K env H = aw PP ref18_Format_c38 (seqK PP ref18_Format_c39 K) env H := aw_seq ref18_Format_c38 ref18_Format_c39
def ref18_Format_c41 : AC := .seq ref18_Format_c10 ref18_Format_c40
@[simp] theorem ref18_Format_c41_eq : aw PP ref18_Format_c41 K env H = aw PP ref18_Format_c10 (seqK PP ref18_Format_c40 K) env H := aw_seq ref18_Format_c10 ref18_Format_c40
def ref18_Format_c42 : AC := .loop ref18_Format_c41
def ref18_Format_c43 : AC := .block 0 ref18_Format_c42
@[simp] theorem ref18_Format_c43_eq : aw PP ref18_Format_c43 K env H = aw PP ref18_Format_c42 (blockK 0 K) env H := aw_block _ ref18_Format_c42
def ref18_Format_c44 : AC := .seq ref18_Format_c7 ref18_Format_c43
@[simp] theorem ref18_Format_c44_eq : aw PP ref18_Format_c44 K env H = aw PP ref18_Format_c7 (seqK PP ref18_Format_c43 K) env H := aw_seq ref18_Format_c7 ref18_Format_c43
def ref18_Format_c45 : AC := .reg [⟨some 98, none, .mov (.t 3)⟩, ⟨some 2, none, .mov (.t 98)⟩] [1, 3, 4, 32, 98]
@[simp] theorem ref18_Format_c45_eq : aw PP ref18_Format_c45 K env H = awOps PP [⟨some 98, none, .mov (.t 3)⟩, ⟨some 2, none, .mov (.t 98)⟩] (regK K [1, 3, 4, 32, 98]) (panK K) env H := aw_reg _ _
def ref18_Format_c46 : AC := .seq ref18_Format_c45 .ret
@[simp] theorem ref18_Format_c46_eq : aw PP ref18_Format_c46 K env H = aw PP ref18_Format_c45 (seqK PP .ret K) env H := aw_seq ref18_Format_c45 .ret
def ref18_Format_c47 : AC := .seq ref18_Format_c44 ref18_Format_c46
@[simp] theorem ref18_Format_c47_eq : aw PP ref18_Format_c47 K env H = aw PP ref18_Format_c44 (seqK PP ref18_Format_c46 K) env H := aw_seq ref18_Format_c44 ref18_Format_c46
def ref18_Format_c48 : AC := .seq ref18_Format_c6 ref18_Format_c47
@[simp] theorem ref18_Format_c48_eq : aw PP ref18_Format_c48 K env H = aw PP ref18_Format_c6 (seqK PP ref18_Format_c47 K) env H := aw_seq ref18_Format_c6 ref18_Format_c47
def ref18_Format_c49 : AC := .seq ref18_Format_c5 ref18_Format_c48
@[simp] theorem ref18_Format_c49_eq : aw PP ref18_Format_c49 K env H = aw PP ref18_Format_c5 (seqK PP ref18_Format_c48 K) env H := aw_seq ref18_Format_c5 ref18_Format_c48
def ref18_Format_c50 : AC := .seq ref18_Format_c0 ref18_Format_c49
@[simp] theorem ref18_Format_c50_eq : aw PP ref18_Format_c50 K env H = aw PP ref18_Format_c0 (seqK PP ref18_Format_c49 K) env H := aw_seq ref18_Format_c0 ref18_Format_c49
def ref18_Format_ac : AC := ref18_Format_c50
@[simp] theorem ref18_Format_ac_eq : aw PP ref18_Format_ac K env H = aw PP ref18_Format_c50 K env H := Eq.trans rfl rfl
def ref18_Format_rs : List ARV := [.tmp 2]
abbrev ref18_Format_id : Nat := 17
theorem ref18_Format_comp : compF PP ref18_Format_kl ref18_Format_ow 1 Tryd.f17 = some (ref18_Format_ac, ref18_Format_rs) := by kernel_rfl
theorem ref18_Format_enter {args : List AV} {H : AHeap} {post : ARes → AHeap → Prop} (ha : args.length = 1) (h : aw PP ref18_Format_ac (retK ref18_Format_rs post) (argEnv 0 args) H) : ACalls PP ref18_Format_id args H post := .enterF Tryd.func17 PP_mix ref18_Format_comp ha h

end Go.Av
