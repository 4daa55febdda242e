/- Functions of the given program, compiled to the own form by program. -/
import Derived.Test.YtondhmpdmbjmdaaDoorFns9
set_option linter.unusedVariables false
set_option linter.unusedSimpArgs false
namespace Go.Av
open Go Go.Proofs
variable {K : AK} {env : Env} {H : AHeap}
/-! emendate.emendateref16.FormatExpr -/
def r6_FE_kl : Nat → List Nat
  | 0 => [0, 2]
  | 2 => [6]
  | 3 => [8, 9, 10, 11, 12, 13, 14, 15, 16, 17, 18, 72]
  | 4 => [1, 19]
  | 5 => [21, 22, 27]
  | 6 => [24]
  | 7 => [20, 23, 25, 26]
  | 8 => [20, 23, 28]
  | 9 => [27, 29, 30]
  | 10 => [32]
  | 11 => [1, 7, 31, 33, 34]
  | 12 => [31, 36]
  | 13 => [7, 35]
  | 14 => [37, 38, 39, 40]
  | 15 => [42, 43]
  | 16 => [41, 44]
  | 17 => [45, 46, 47]
  | 18 => [45, 48, 49, 50, 51, 52, 53, 54, 55, 56, 57, 58, 59, 60, 61, 62, 63, 64, 65, 66, 67, 68, 69, 70, 71]
  | 19 => [7, 35, 73]
  | 20 => [72]
  | 21 => [74, 75, 76, 77]
  | 22 => [79, 80]
  | 23 => [78, 81]
  | 24 => [82, 83, 84]
  | 25 => [82, 85, 86, 87, 88, 89, 90, 91, 92, 93, 94, 95, 96, 97, 98, 99, 100, 101, 102, 103, 104, 105, 106, 107, 108, 109, 110, 111, 112, 113, 114, 115, 116, 117, 118]
  | 26 => [1, 3, 4, 5, 41, 78, 119]
  | _ => []
def r6_FE_ow : Nat → Nat → Bool := fun _ _ => false
def r6_FE_c0 : AC := .reg [⟨some 1, none, .box (.t 0) 3 33⟩, ⟨some 2, none, .mov (.c (.str []))⟩] [0, 2]
@[simp] theorem r6_FE_c0_eq : aw PP r6_FE_c0 K env H = awOps PP [⟨some 1, none, .box (.t 0) 3 33⟩, ⟨some 2, none, .mov (.c (.str []))⟩] (regK K [0, 2]) (panK K) env H := aw_reg _ _
def r6_FE_c1 : AC := .reg [⟨some 3, none, .mov (.c (.str []))⟩] []
@[simp] theorem r6_FE_c1_eq : aw PP r6_FE_c1 K env H = awOps PP [⟨some 3, none, .mov (.c (.str []))⟩] (regK K []) (panK K) env H := aw_reg _ _
def r6_FE_c2 : AC := .reg [⟨some 6, none, .fa 0 0 (.t 1)⟩, ⟨some 7, none, .ld false 1 (.t 6)⟩] [6]
@[simp] theorem r6_FE_c2_eq : aw PP r6_FE_c2 K env H = awOps PP [⟨some 6, none, .fa 0 0 (.t 1)⟩, ⟨some 7, none, .ld false 1 (.t 6)⟩] (regK K [6]) (panK K) env H := aw_reg _ _
def r6_FE_c3 : AC := .reg [⟨some 32, none, .bin (.eql) (.t 7) (.c (.int (.i64) 1))⟩, ⟨some 31, none, .mov (.t 32)⟩] [32]
@[simp] theorem r6_FE_c3_eq : aw PP r6_FE_c3 K env H = awOps PP [⟨some 32, none, .bin (.eql) (.t 7) (.c (.int (.i64) 1))⟩, ⟨some 31, none, .mov (.t 32)⟩] (regK K [32]) (panK K) env H := aw_reg _ _
def r6_FE_c4 : AC := .reg [⟨some 33, none, .fa 1 1 (.t 1)⟩, ⟨some 34, none, .ld false 1 (.t 33)⟩, ⟨some 3, none, .mov (.t 34)⟩] [1, 7, 31, 33, 34]
@[simp] theorem r6_FE_c4_eq : aw PP r6_FE_c4 K env H = awOps PP [⟨some 33, none, .fa 1 1 (.t 1)⟩, ⟨some 34, none, .ld false 1 (.t 33)⟩, ⟨some 3, none, .mov (.t 34)⟩] (regK K [1, 7, 31, 33, 34]) (panK K) env H := aw_reg _ _
def r6_FE_c5 : AC := .reg [⟨some 36, none, .bin (.eql) (.t 7) (.c (.int (.i64) 2))⟩, ⟨some 35, none, .mov (.t 36)⟩] [31, 36]
@[simp] theorem r6_FE_c5_eq : aw PP r6_FE_c5 K env H = awOps PP [⟨some 36, none, .bin (.eql) (.t 7) (.c (.int (.i64) 2))⟩, ⟨some 35, none, .mov (.t 36)⟩] (regK K [31, 36]) (panK K) env H := aw_reg _ _
def r6_FE_c6 : AC := .reg [⟨some 4, none, .mov (.c (.int (.i64) 0))⟩] [7, 35]
@[simp] theorem r6_FE_c6_eq : aw PP r6_FE_c6 K env H = awOps PP [⟨some 4, none, .mov (.c (.int (.i64) 0))⟩] (regK K [7, 35]) (panK K) env H := aw_reg _ _
def r6_FE_c7 : AC := .reg [⟨some 37, none, .mov (.t 4)⟩, ⟨some 38, none, .fa 2 2 (.t 1)⟩, ⟨some 39, none, .ld false 1 (.t 38)⟩, ⟨some 40, none, .lenl (.t 39)⟩, ⟨some 41, none, .bin (.lss) (.t 37) (.t 40)⟩] [37, 38, 39, 40]
@[simp] theorem r6_FE_c7_eq : aw PP r6_FE_c7 K env H = awOps PP [⟨some 37, none, .mov (.t 4)⟩, ⟨some 38, none, .fa 2 2 (.t 1)⟩, ⟨some 39, none, .ld false 1 (.t 38)⟩, ⟨some 40, none, .lenl (.t 39)⟩, ⟨some 41, none, .bin (.lss) (.t 37) (.t 40)⟩] (regK K [37, 38, 39, 40]) (panK K) env H := aw_reg _ _
def r6_FE_c8 : AC := .cond (.t 41) .skip (.exit 2)
@[simp] theorem r6_FE_c8_eq : aw PP r6_FE_c8 K env H = condQ PP (Opd.ev env (.t 41)) .skip (.exit 2) K env H := aw_cond _ .skip (.exit 2)
def r6_FE_c9 : AC := .seq r6_FE_c7 r6_FE_c8
@[simp] theorem r6_FE_c9_eq : aw PP r6_FE_c9 K env H = aw PP r6_FE_c7 (seqK PP r6_FE_c8 K) env H := aw_seq r6_FE_c7 r6_FE_c8
def r6_FE_c10 : AC := .reg [⟨some 44, none, .mov (.t 4)⟩, ⟨some 45, none, .bin (.gtr) (.t 44) (.c (.int (.i64) 0))⟩] [41, 44]
@[simp] theorem r6_FE_c10_eq : aw PP r6_FE_c10 K env H = awOps PP [⟨some 44, none, .mov (.t 4)⟩, ⟨some 45, none, .bin (.gtr) (.t 44) (.c (.int (.i64) 0))⟩] (regK K [41, 44]) (panK K) env H := aw_reg _ _
def r6_FE_c11 : AC := .reg [⟨some 46, none, .mov (.t 3)⟩, ⟨some 47, none, .bin (.add) (.t 46) (.c (.str [32]))⟩, ⟨some 3, none, .mov (.t 47)⟩] [45, 46, 47]
@[simp] theorem r6_FE_c11_eq : aw PP r6_FE_c11 K env H = awOps PP [⟨some 46, none, .mov (.t 3)⟩, ⟨some 47, none, .bin (.add) (.t 46) (.c (.str [32]))⟩, ⟨some 3, none, .mov (.t 47)⟩] (regK K [45, 46, 47]) (panK K) env H := aw_reg _ _
def r6_FE_c12 : AC := .cond (.t 45) r6_FE_c11 .skip
@[simp] theorem r6_FE_c12_eq : aw PP r6_FE_c12 K env H = condQ PP (Opd.ev env (.t 45)) r6_FE_c11 .skip K env H := aw_cond _ r6_FE_c11 .skip
def r6_FE_c13 : AC := .seq r6_FE_c10 r6_FE_c12
@[simp] theorem r6_FE_c13_eq : aw PP r6_FE_c13 K env H = aw PP r6_FE_c10 (seqK PP r6_FE_c12 K) env H := aw_seq r6_FE_c10 r6_FE_c12
def r6_FE_c14_ops : List (AI × List Nat) := [(⟨some 48, none, .mov (.t 3)⟩, []), (⟨some 49, none, .fa 2 2 (.t 1)⟩, []), (⟨some 50, none, .ld false 1 (.t 49)⟩, [1]), (⟨some 51, none, .mov (.t 4)⟩, []), (⟨some 52, none, .ixa 3 (.t 50) (.t 51)⟩, [2, 3]), (⟨some 53, none, .ld true 3 (.t 52)⟩, [4]), (⟨some 54, none, .fa 2 2 (.t 1)⟩, []), (⟨some 55, none, .ld false 1 (.t 54)⟩, [6]), (⟨some 56, none, .mov (.t 4)⟩, []), (⟨some 57, none, .ixa 3 (.t 55) (.t 56)⟩, [7, 8]), (⟨some 58, none, .fa 0 0 (.t 57)⟩, [9]), (⟨some 59, none, .ld false 1 (.t 58)⟩, [10]), (⟨some 60, none, .bin (.eql) (.t 59) (.c (.int (.i64) 2))⟩, [11]), (⟨some 61, none, .mov (.t 60)⟩, [12]), (⟨some 62, some (61, false), .fa 2 2 (.t 1)⟩, [13]), (⟨some 63, some (61, false), .ld false 1 (.t 62)⟩, [14, 13]), (⟨some 64, some (61, false), .mov (.t 4)⟩, [13]), (⟨some 65, some (61, false), .ixa 3 (.t 63) (.t 64)⟩, [15, 16, 13]), (⟨some 66, some (61, false), .fa 0 0 (.t 65)⟩, [17, 13]), (⟨some 67, some (61, false), .ld false 1 (.t 66)⟩, [18, 13]), (⟨some 68, some (61, false), .bin (.eql) (.t 67) (.c (.int (.i64) 3))⟩, [19, 13]), (⟨some 69, none, .pick (.t 61) (.c (.bool true)) (.t 68)⟩, [13, 20]), (⟨some 70, none, .call (.c (.fn (.func 64) [] [])) [.t 53, .t 69]⟩, [5, 21, 13]), (⟨some 71, none, .bin (.add) (.t 48) (.t 70)⟩, [0, 22]), (⟨some 3, none, .mov (.t 71)⟩, [23, 22, 0, 1, 2, 3, 4, 5, 6, 7, 8, 9, 10, 11, 12, 13, 14, 15, 16, 17, 18, 19, 20, 21, 22, 23])]
def r6_FE_c14 : AC := .dreg r6_FE_c14_ops [45, 48, 49, 50, 51, 52, 53, 54, 55, 56, 57, 58, 59, 60, 61, 62, 63, 64, 65, 66, 67, 68, 69, 70, 71]
theorem r6_FE_c14_ok : lexOK r6_FE_c14_ops (fun i => [].contains i) = true := by kernel_rfl
theorem r6_FE_c14_lex (h : awLex PP (fun i => [].contains i) (regK K [45, 48, 49, 50, 51, 52, 53, 54, 55, 56, 57, 58, 59, 60, 61, 62, 63, 64, 65, 66, 67, 68, 69, 70, 71]) (panK K) [(0, ⟨some 48, none, .mov (.t 3)⟩), (1, ⟨some 49, none, .fa 2 2 (.t 1)⟩), (2, ⟨some 50, none, .ld false 1 (.t 49)⟩), (3, ⟨some 51, none, .mov (.t 4)⟩), (4, ⟨some 52, none, .ixa 3 (.t 50) (.t 51)⟩), (5, ⟨some 53, none, .ld true 3 (.t 52)⟩), (6, ⟨some 54, none, .fa 2 2 (.t 1)⟩), (7, ⟨some 55, none, .ld false 1 (.t 54)⟩), (8, ⟨some 56, none, .mov (.t 4)⟩), (9, ⟨some 57, none, .ixa 3 (.t 55) (.t 56)⟩), (10, ⟨some 58, none, .fa 0 0 (.t 57)⟩), (11, ⟨some 59, none, .ld false 1 (.t 58)⟩), (12, ⟨some 60, none, .bin (.eql) (.t 59) (.c (.int (.i64) 2))⟩), (13, ⟨some 61, none, .mov (.t 60)⟩), (14, ⟨some 62, some (61, false), .fa 2 2 (.t 1)⟩), (15, ⟨some 63, some (61, false), .ld false 1 (.t 62)⟩), (16, ⟨some 64, some (61, false), .mov (.t 4)⟩), (17, ⟨some 65, some (61, false), .ixa 3 (.t 63) (.t 64)⟩), (18, ⟨some 66, some (61, false), .fa 0 0 (.t 65)⟩), (19, ⟨some 67, some (61, false), .ld false 1 (.t 66)⟩), (20, ⟨some 68, some (61, false), .bin (.eql) (.t 67) (.c (.int (.i64) 3))⟩), (21, ⟨some 69, none, .pick (.t 61) (.c (.bool true)) (.t 68)⟩), (22, ⟨some 70, none, .call (.c (.fn (.func 64) [] [])) [.t 53, .t 69]⟩), (23, ⟨some 71, none, .bin (.add) (.t 48) (.t 70)⟩), (24, ⟨some 3, none, .mov (.t 71)⟩)] env H) : aw PP r6_FE_c14 K env H := aw_dreg_lex _ r6_FE_c14_ok h
theorem r6_FE_c14_okF : lexOKF r6_FE_c14_ops 23 (fun i => [22].contains i) = true := by kernel_rfl
theorem r6_FE_c14_lexF (B : List Nat) (h : awLexF PP 23 (fun i => [22].contains i) B H (regK K [45, 48, 49, 50, 51, 52, 53, 54, 55, 56, 57, 58, 59, 60, 61, 62, 63, 64, 65, 66, 67, 68, 69, 70, 71]) (panK K) [(0, ⟨some 48, none, .mov (.t 3)⟩), (1, ⟨some 49, none, .fa 2 2 (.t 1)⟩), (2, ⟨some 50, none, .ld false 1 (.t 49)⟩), (3, ⟨some 51, none, .mov (.t 4)⟩), (4, ⟨some 52, none, .ixa 3 (.t 50) (.t 51)⟩), (5, ⟨some 53, none, .ld true 3 (.t 52)⟩), (6, ⟨some 54, none, .fa 2 2 (.t 1)⟩), (7, ⟨some 55, none, .ld false 1 (.t 54)⟩), (8, ⟨some 56, none, .mov (.t 4)⟩), (9, ⟨some 57, none, .ixa 3 (.t 55) (.t 56)⟩), (10, ⟨some 58, none, .fa 0 0 (.t 57)⟩), (11, ⟨some 59, none, .ld false 1 (.t 58)⟩), (12, ⟨some 60, none, .bin (.eql) (.t 59) (.c (.int (.i64) 2))⟩), (13, ⟨some 61, none, .mov (.t 60)⟩), (14, ⟨some 62, some (61, false), .fa 2 2 (.t 1)⟩), (15, ⟨some 63, some (61, false), .ld false 1 (.t 62)⟩), (16, ⟨some 64, some (61, false), .mov (.t 4)⟩), (17, ⟨some 65, some (61, false), .ixa 3 (.t 63) (.t 64)⟩), (18, ⟨some 66, some (61, false), .fa 0 0 (.t 65)⟩), (19, ⟨some 67, some (61, false), .ld false 1 (.t 66)⟩), (20, ⟨some 68, some (61, false), .bin (.eql) (.t 67) (.c (.int (.i64) 3))⟩), (21, ⟨some 69, none, .pick (.t 61) (.c (.bool true)) (.t 68)⟩), (22, ⟨some 70, none, .call (.c (.fn (.func 64) [] [])) [.t 53, .t 69]⟩), (23, ⟨some 71, none, .bin (.add) (.t 48) (.t 70)⟩), (24, ⟨some 3, none, .mov (.t 71)⟩)] env H) : aw PP r6_FE_c14 K env H := aw_dreg_lexF _ _ B r6_FE_c14_okF h
def r6_FE_c15 : AC := .seq r6_FE_c13 r6_FE_c14
@[simp] theorem r6_FE_c15_eq : aw PP r6_FE_c15 K env H = aw PP r6_FE_c13 (seqK PP r6_FE_c14 K) env H := aw_seq r6_FE_c13 r6_FE_c14
def r6_FE_c16 : AC := .block 3 r6_FE_c15
@[simp] theorem r6_FE_c16_eq : aw PP r6_FE_c16 K env H = aw PP r6_FE_c15 (blockK 3 K) env H := aw_block _ r6_FE_c15
def r6_FE_c17 : AC := .reg [⟨some 42, none, .mov (.t 4)⟩, ⟨some 43, none, .bin (.add) (.t 42) (.c (.int (.i64) 1))⟩, ⟨some 4, none, .mov (.t 43)⟩] [42, 43]
@[simp] theorem r6_FE_c17_eq : aw PP r6_FE_c17 K env H = awOps PP [⟨some 42, none, .mov (.t 4)⟩, ⟨some 43, none, .bin (.add) (.t 42) (.c (.int (.i64) 1))⟩, ⟨some 4, none, .mov (.t 43)⟩] (regK K [42, 43]) (panK K) env H := aw_reg _ _
def r6_FE_c18 : AC := .seq r6_FE_c16 r6_FE_c17
@[simp] theorem r6_FE_c18_eq : aw PP r6_FE_c18 K env H = aw PP r6_FE_c16 (seqK PP r6_FE_c17 K) env H := aw_seq r6_FE_c16 r6_FE_c17
def r6_FE_c19 : AC := .seq r6_FE_c9 r6_FE_c18
@[simp] theorem r6_FE_c19_eq : aw PP r6_FE_c19 K env H = aw PP r6_FE_c9 (seqK PP r6_FE_c18 K) env H := aw_seq r6_FE_c9 r6_FE_c18
def r6_FE_c20 : AC := .loop r6_FE_c19
def r6_FE_c21 : AC := .block 2 r6_FE_c20
@[simp] theorem r6_FE_c21_eq : aw PP r6_FE_c21 K env H = aw PP r6_FE_c20 (blockK 2 K) env H := aw_block _ r6_FE_c20
def r6_FE_c22 : AC := .seq r6_FE_c6 r6_FE_c21
@[simp] theorem r6_FE_c22_eq : aw PP r6_FE_c22 K env H = aw PP r6_FE_c6 (seqK PP r6_FE_c21 K) env H := aw_seq r6_FE_c6 r6_FE_c21
def r6_FE_c23 : AC := .reg [⟨some 73, none, .bin (.eql) (.t 7) (.c (.int (.i64) 3))⟩, ⟨some 72, none, .mov (.t 73)⟩] [7, 35, 73]
@[simp] theorem r6_FE_c23_eq : aw PP r6_FE_c23 K env H = awOps PP [⟨some 73, none, .bin (.eql) (.t 7) (.c (.int (.i64) 3))⟩, ⟨some 72, none, .mov (.t 73)⟩] (regK K [7, 35, 73]) (panK K) env H := aw_reg _ _
def r6_FE_c24 : AC := .reg [⟨some 5, none, .mov (.c (.int (.i64) 0))⟩] [72]
@[simp] theorem r6_FE_c24_eq : aw PP r6_FE_c24 K env H = awOps PP [⟨some 5, none, .mov (.c (.int (.i64) 0))⟩] (regK K [72]) (panK K) env H := aw_reg _ _
def r6_FE_c25 : AC := .reg [⟨some 74, none, .mov (.t 5)⟩, ⟨some 75, none, .fa 2 2 (.t 1)⟩, ⟨some 76, none, .ld false 1 (.t 75)⟩, ⟨some 77, none, .lenl (.t 76)⟩, ⟨some 78, none, .bin (.lss) (.t 74) (.t 77)⟩] [74, 75, 76, 77]
@[simp] theorem r6_FE_c25_eq : aw PP r6_FE_c25 K env H = awOps PP [⟨some 74, none, .mov (.t 5)⟩, ⟨some 75, none, .fa 2 2 (.t 1)⟩, ⟨some 76, none, .ld false 1 (.t 75)⟩, ⟨some 77, none, .lenl (.t 76)⟩, ⟨some 78, none, .bin (.lss) (.t 74) (.t 77)⟩] (regK K [74, 75, 76, 77]) (panK K) env H := aw_reg _ _
def r6_FE_c26 : AC := .cond (.t 78) .skip (.exit 4)
@[simp] theorem r6_FE_c26_eq : aw PP r6_FE_c26 K env H = condQ PP (Opd.ev env (.t 78)) .skip (.exit 4) K env H := aw_cond _ .skip (.exit 4)
def r6_FE_c27 : AC := .seq r6_FE_c25 r6_FE_c26
@[simp] theorem r6_FE_c27_eq : aw PP r6_FE_c27 K env H = aw PP r6_FE_c25 (seqK PP r6_FE_c26 K) env H := aw_seq r6_FE_c25 r6_FE_c26
def r6_FE_c28 : AC := .reg [⟨some 81, none, .mov (.t 5)⟩, ⟨some 82, none, .bin (.gtr) (.t 81) (.c (.int (.i64) 0))⟩] [78, 81]
@[simp] theorem r6_FE_c28_eq : aw PP r6_FE_c28 K env H = awOps PP [⟨some 81, none, .mov (.t 5)⟩, ⟨some 82, none, .bin (.gtr) (.t 81) (.c (.int (.i64) 0))⟩] (regK K [78, 81]) (panK K) env H := aw_reg _ _
def r6_FE_c29 : AC := .reg [⟨some 83, none, .mov (.t 3)⟩, ⟨some 84, none, .bin (.add) (.t 83) (.c (.str [32, 124, 32]))⟩, ⟨some 3, none, .mov (.t 84)⟩] [82, 83, 84]
@[simp] theorem r6_FE_c29_eq : aw PP r6_FE_c29 K env H = awOps PP [⟨some 83, none, .mov (.t 3)⟩, ⟨some 84, none, .bin (.add) (.t 83) (.c (.str [32, 124, 32]))⟩, ⟨some 3, none, .mov (.t 84)⟩] (regK K [82, 83, 84]) (panK K) env H := aw_reg _ _
def r6_FE_c30 : AC := .cond (.t 82) r6_FE_c29 .skip
@[simp] theorem r6_FE_c30_eq : aw PP r6_FE_c30 K env H = condQ PP (Opd.ev env (.t 82)) r6_FE_c29 .skip K env H := aw_cond _ r6_FE_c29 .skip
def r6_FE_c31 : AC := .seq r6_FE_c28 r6_FE_c30
@[simp] theorem r6_FE_c31_eq : aw PP r6_FE_c31 K env H = aw PP r6_FE_c28 (seqK PP r6_FE_c30 K) env H := aw_seq r6_FE_c28 r6_FE_c30
def r6_FE_c32_ops : List (AI × List Nat) := [(⟨some 85, none, .mov (.t 3)⟩, []), (⟨some 86, none, .fa 2 2 (.t 1)⟩, []), (⟨some 87, none, .ld false 1 (.t 86)⟩, [1]), (⟨some 88, none, .mov (.t 5)⟩, []), (⟨some 89, none, .ixa 3 (.t 87) (.t 88)⟩, [2, 3]), (⟨some 90, none, .ld true 3 (.t 89)⟩, [4]), (⟨some 91, none, .fa 2 2 (.t 1)⟩, []), (⟨some 92, none, .ld false 1 (.t 91)⟩, [6]), (⟨some 93, none, .mov (.t 5)⟩, []), (⟨some 94, none, .ixa 3 (.t 92) (.t 93)⟩, [7, 8]), (⟨some 95, none, .fa 0 0 (.t 94)⟩, [9]), (⟨some 96, none, .ld false 1 (.t 95)⟩, [10]), (⟨some 97, none, .bin (.eql) (.t 96) (.c (.int (.i64) 3))⟩, [11]), (⟨some 98, none, .mov (.t 97)⟩, [12]), (⟨some 99, some (98, false), .fa 2 2 (.t 1)⟩, [13]), (⟨some 100, some (98, false), .ld false 1 (.t 99)⟩, [14, 13]), (⟨some 101, some (98, false), .mov (.t 5)⟩, [13]), (⟨some 102, some (98, false), .ixa 3 (.t 100) (.t 101)⟩, [15, 16, 13]), (⟨some 103, some (98, false), .fa 0 0 (.t 102)⟩, [17, 13]), (⟨some 104, some (98, false), .ld false 1 (.t 103)⟩, [18, 13]), (⟨some 105, some (98, false), .bin (.eql) (.t 104) (.c (.int (.i64) 2))⟩, [19, 13]), (⟨some 106, some (98, false), .mov (.t 105)⟩, [20, 13, 13]), (⟨some 107, some (106, true), .fa 2 2 (.t 1)⟩, [21]), (⟨some 108, some (106, true), .ld false 1 (.t 107)⟩, [22, 21]), (⟨some 109, some (106, true), .mov (.t 5)⟩, [21]), (⟨some 110, some (106, true), .ixa 3 (.t 108) (.t 109)⟩, [23, 24, 21]), (⟨some 111, some (106, true), .fa 2 2 (.t 110)⟩, [25, 21]), (⟨some 112, some (106, true), .ld false 1 (.t 111)⟩, [26, 21]), (⟨some 113, some (106, true), .lenl (.t 112)⟩, [27, 21]), (⟨some 114, some (106, true), .bin (.eql) (.t 113) (.c (.int (.i64) 0))⟩, [28, 21]), (⟨some 115, some (98, false), .pick (.t 106) (.t 114) (.c (.bool false))⟩, [21, 29, 13]), (⟨some 116, none, .pick (.t 98) (.c (.bool true)) (.t 115)⟩, [13, 30]), (⟨some 117, none, .call (.c (.fn (.func 64) [] [])) [.t 90, .t 116]⟩, [5, 31, 21]), (⟨some 118, none, .bin (.add) (.t 85) (.t 117)⟩, [0, 32]), (⟨some 3, none, .mov (.t 118)⟩, [33, 32, 0, 1, 2, 3, 4, 5, 6, 7, 8, 9, 10, 11, 12, 13, 14, 15, 16, 17, 18, 19, 20, 21, 22, 23, 24, 25, 26, 27, 28, 29, 30, 31, 32, 33])]
def r6_FE_c32 : AC := .dreg r6_FE_c32_ops [82, 85, 86, 87, 88, 89, 90, 91, 92, 93, 94, 95, 96, 97, 98, 99, 100, 101, 102, 103, 104, 105, 106, 107, 108, 109, 110, 111, 112, 113, 114, 115, 116, 117, 118]
theorem r6_FE_c32_ok : lexOK r6_FE_c32_ops (fun i => [].contains i) = true := by kernel_rfl
theorem r6_FE_c32_lex (h : awLex PP (fun i => [].contains i) (regK K [82, 85, 86, 87, 88, 89, 90, 91, 92, 93, 94, 95, 96, 97, 98, 99, 100, 101, 102, 103, 104, 105, 106, 107, 108, 109, 110, 111, 112, 113, 114, 115, 116, 117, 118]) (panK K) [(0, ⟨some 85, none, .mov (.t 3)⟩), (1, ⟨some 86, none, .fa 2 2 (.t 1)⟩), (2, ⟨some 87, none, .ld false 1 (.t 86)⟩), (3, ⟨some 88, none, .mov (.t 5)⟩), (4, ⟨some 89, none, .ixa 3 (.t 87) (.t 88)⟩), (5, ⟨some 90, none, .ld true 3 (.t 89)⟩), (6, ⟨some 91, none, .fa 2 2 (.t 1)⟩), (7, ⟨some 92, none, .ld false 1 (.t 91)⟩), (8, ⟨some 93, none, .mov (.t 5)⟩), (9, ⟨some 94, none, .ixa 3 (.t 92) (.t 93)⟩), (10, ⟨some 95, none, .fa 0 0 (.t 94)⟩), (11, ⟨some 96, none, .ld false 1 (.t 95)⟩), (12, ⟨some 97, none, .bin (.eql) (.t 96) (.c (.int (.i64) 3))⟩), (13, ⟨some 98, none, .mov (.t 97)⟩), (14, ⟨some 99, some (98, false), .fa 2 2 (.t 1)⟩), (15, ⟨some 100, some (98, false), .ld false 1 (.t 99)⟩), (16, ⟨some 101, some (98, false), .mov (.t 5)⟩), (17, ⟨some 102, some (98, false), .ixa 3 (.t 100) (.t 101)⟩), (18, ⟨some 103, some (98, false), .fa 0 0 (.t 102)⟩), (19, ⟨some 104, some (98, false), .ld false 1 (.t 103)⟩), (20, ⟨some 105, some (98, false), .bin (.eql) (.t 104) (.c (.int (.i64) 2))⟩), (21, ⟨some 106, some (98, false), .mov (.t 105)⟩), (22, ⟨some 107, some (106, true), .fa 2 2 (.t 1)⟩), (23, ⟨some 108, some (106, true), .ld false 1 (.t 107)⟩), (24, ⟨some 109, some (106, true), .mov (.t 5)⟩), (25, ⟨some 110, some (106, true), .ixa 3 (.t 108) (.t 109)⟩), (26, ⟨some 111, some (106, true), .fa 2 2 (.t 110)⟩), (27, ⟨some 112, some (106, true), .ld false 1 (.t 111)⟩), (28, ⟨some 113, some (106, true), .lenl (.t 112)⟩), (29, ⟨some 114, some (106, true), .bin (.eql) (.t 113) (.c (.int (.i64) 0))⟩), (30, ⟨some 115, some (98, false), .pick (.t 106) (.t 114) (.c (.bool false))⟩), (31, ⟨some 116, none, .pick (.t 98) (.c (.bool true)) (.t 115)⟩), (32, ⟨some 117, none, .call (.c (.fn (.func 64) [] [])) [.t 90, .t 116]⟩), (33, ⟨some 118, none, .bin (.add) (.t 85) (.t 117)⟩), (34, ⟨some 3, none, .mov (.t 118)⟩)] env H) : aw PP r6_FE_c32 K env H := aw_dreg_lex _ r6_FE_c32_ok h
theorem r6_FE_c32_okF : lexOKF r6_FE_c32_ops 33 (fun i => [32].contains i) = true := by kernel_rfl
theorem r6_FE_c32_lexF (B : List Nat) (h : awLexF PP 33 (fun i => [32].contains i) B H (regK K [82, 85, 86, 87, 88, 89, 90, 91, 92, 93, 94, 95, 96, 97, 98, 99, 100, 101, 102, 103, 104, 105, 106, 107, 108, 109, 110, 111, 112, 113, 114, 115, 116, 117, 118]) (panK K) [(0, ⟨some 85, none, .mov (.t 3)⟩), (1, ⟨some 86, none, .fa 2 2 (.t 1)⟩), (2, ⟨some 87, none, .ld false 1 (.t 86)⟩), (3, ⟨some 88, none, .mov (.t 5)⟩), (4, ⟨some 89, none, .ixa 3 (.t 87) (.t 88)⟩), (5, ⟨some 90, none, .ld true 3 (.t 89)⟩), (6, ⟨some 91, none, .fa 2 2 (.t 1)⟩), (7, ⟨some 92, none, .ld false 1 (.t 91)⟩), (8, ⟨some 93, none, .mov (.t 5)⟩), (9, ⟨some 94, none, .ixa 3 (.t 92) (.t 93)⟩), (10, ⟨some 95, none, .fa 0 0 (.t 94)⟩), (11, ⟨some 96, none, .ld false 1 (.t 95)⟩), (12, ⟨some 97, none, .bin (.eql) (.t 96) (.c (.int (.i64) 3))⟩), (13, ⟨some 98, none, .mov (.t 97)⟩), (14, ⟨some 99, some (98, false), .fa 2 2 (.t 1)⟩), (15, ⟨some 100, some (98, false), .ld false 1 (.t 99)⟩), (16, ⟨some 101, some (98, false), .mov (.t 5)⟩), (17, ⟨some 102, some (98, false), .ixa 3 (.t 100) (.t 101)⟩), (18, ⟨some 103, some (98, false), .fa 0 0 (.t 102)⟩), (19, ⟨some 104, some (98, false), .ld false 1 (.t 103)⟩), (20, ⟨some 105, some (98, false), .bin (.eql) (.t 104) (.c (.int (.i64) 2))⟩), (21, ⟨some 106, some (98, false), .mov (.t 105)⟩), (22, ⟨some 107, some (106, true), .fa 2 2 (.t 1)⟩), (23, ⟨some 108, some (106, true), .ld false 1 (.t 107)⟩), (24, ⟨some 109, some (106, true), .mov (.t 5)⟩), (25, ⟨some 110, some (106, true), .ixa 3 (.t 108) (.t 109)⟩), (26, ⟨some 111, some (106, true), .fa 2 2 (.t 110)⟩), (27, ⟨some 112, some (106, true), .ld false 1 (.t 111)⟩), (28, ⟨some 113, some (106, true), .lenl (.t 112)⟩), (29, ⟨some 114, some (106, true), .bin (.eql) (.t 113) (.c (.int (.i64) 0))⟩), (30, ⟨some 115, some (98, false), .pick (.t 106) (.t 114) (.c (.bool false))⟩), (31, ⟨some 116, none, .pick (.t 98) (.c (.bool true)) (.t 115)⟩), (32, ⟨some 117, none, .call (.c (.fn (.func 64) [] [])) [.t 90, .t 116]⟩), (33, ⟨some 118, none, .bin (.add) (.t 85) (.t 117)⟩), (34, ⟨some 3, none, .mov (.t 118)⟩)] env H) : aw PP r6_FE_c32 K env H := aw_dreg_lexF _ _ B r6_FE_c32_okF h
def r6_FE_c33 : AC := .seq r6_FE_c31 r6_FE_c32
@[simp] theorem r6_FE_c33_eq : aw PP r6_FE_c33 K env H = aw PP r6_FE_c31 (seqK PP r6_FE_c32 K) env H := aw_seq r6_FE_c31 r6_FE_c32
def r6_FE_c34 : AC := .block 5 r6_FE_c33
@[simp] theorem r6_FE_c34_eq : aw PP r6_FE_c34 K env H = aw PP r6_FE_c33 (blockK 5 K) env H := aw_block _ r6_FE_c33
def r6_FE_c35 : AC := .reg [⟨some 79, none, .mov (.t 5)⟩, ⟨some 80, none, .bin (.add) (.t 79) (.c (.int (.i64) 1))⟩, ⟨some 5, none, .mov (.t 80)⟩] [79, 80]
@[simp] theorem r6_FE_c35_eq : aw PP r6_FE_c35 K env H = awOps PP [⟨some 79, none, .mov (.t 5)⟩, ⟨some 80, none, .bin (.add) (.t 79) (.c (.int (.i64) 1))⟩, ⟨some 5, none, .mov (.t 80)⟩] (regK K [79, 80]) (panK K) env H := aw_reg _ _
def r6_FE_c36 : AC := .seq r6_FE_c34 r6_FE_c35
@[simp] theorem r6_FE_c36_eq : aw PP r6_FE_c36 K env H = aw PP r6_FE_c34 (seqK PP r6_FE_c35 K) env H := aw_seq r6_FE_c34 r6_FE_c35
def r6_FE_c37 : AC := .seq r6_FE_c27 r6_FE_c36
@[simp] theorem r6_FE_c37_eq : aw PP r6_FE_c37 K env H = aw PP r6_FE_c27 (seqK PP r6_FE_c36 K) env H := aw_seq r6_FE_c27 r6_FE_c36
def r6_FE_c38 : AC := .loop r6_FE_c37
def r6_FE_c39 : AC := .block 4 r6_FE_c38
@[simp] theorem r6_FE_c39_eq : aw PP r6_FE_c39 K env H = aw PP r6_FE_c38 (blockK 4 K) env H := aw_block _ r6_FE_c38
def r6_FE_c40 : AC := .seq r6_FE_c24 r6_FE_c39
@[simp] theorem r6_FE_c40_eq : aw PP r6_FE_c40 K env H = aw PP r6_FE_c24 (seqK PP r6_FE_c39 K) env H := aw_seq r6_FE_c24 r6_FE_c39
def r6_FE_c41_ops : List (AI × List Nat) := [(⟨some 8, none, .fa 2 2 (.t 1)⟩, []), (⟨some 9, none, .ld false 1 (.t 8)⟩, [0]), (⟨some 10, none, .ixa 3 (.t 9) (.c (.int (.i64) 0))⟩, [1]), (⟨some 11, none, .ld true 3 (.t 10)⟩, [2]), (⟨some 12, none, .fa 2 2 (.t 1)⟩, []), (⟨some 13, none, .ld false 1 (.t 12)⟩, [4]), (⟨some 14, none, .ixa 3 (.t 13) (.c (.int (.i64) 0))⟩, [5]), (⟨some 15, none, .fa 0 0 (.t 14)⟩, [6]), (⟨some 16, none, .ld false 1 (.t 15)⟩, [7]), (⟨some 17, none, .bin (.neq) (.t 16) (.c (.int (.i64) 1))⟩, [8]), (⟨some 18, none, .call (.c (.fn (.func 64) [] [])) [.t 11, .t 17]⟩, [3, 9]), (⟨some 3, none, .mov (.t 18)⟩, [10, 10, 0, 1, 2, 3, 4, 5, 6, 7, 8, 9, 10])]
def r6_FE_c41 : AC := .dreg r6_FE_c41_ops [8, 9, 10, 11, 12, 13, 14, 15, 16, 17, 18, 72]
theorem r6_FE_c41_ok : lexOK r6_FE_c41_ops (fun i => [].contains i) = true := by kernel_rfl
theorem r6_FE_c41_lex (h : awLex PP (fun i => [].contains i) (regK K [8, 9, 10, 11, 12, 13, 14, 15, 16, 17, 18, 72]) (panK K) [(0, ⟨some 8, none, .fa 2 2 (.t 1)⟩), (1, ⟨some 9, none, .ld false 1 (.t 8)⟩), (2, ⟨some 10, none, .ixa 3 (.t 9) (.c (.int (.i64) 0))⟩), (3, ⟨some 11, none, .ld true 3 (.t 10)⟩), (4, ⟨some 12, none, .fa 2 2 (.t 1)⟩), (5, ⟨some 13, none, .ld false 1 (.t 12)⟩), (6, ⟨some 14, none, .ixa 3 (.t 13) (.c (.int (.i64) 0))⟩), (7, ⟨some 15, none, .fa 0 0 (.t 14)⟩), (8, ⟨some 16, none, .ld false 1 (.t 15)⟩), (9, ⟨some 17, none, .bin (.neq) (.t 16) (.c (.int (.i64) 1))⟩), (10, ⟨some 18, none, .call (.c (.fn (.func 64) [] [])) [.t 11, .t 17]⟩), (11, ⟨some 3, none, .mov (.t 18)⟩)] env H) : aw PP r6_FE_c41 K env H := aw_dreg_lex _ r6_FE_c41_ok h
theorem r6_FE_c41_okF : lexOKF r6_FE_c41_ops 10 (fun i => [10].contains i) = true := by kernel_rfl
theorem r6_FE_c41_lexF (B : List Nat) (h : awLexF PP 10 (fun i => [10].contains i) B H (regK K [8, 9, 10, 11, 12, 13, 14, 15, 16, 17, 18, 72]) (panK K) [(0, ⟨some 8, none, .fa 2 2 (.t 1)⟩), (1, ⟨some 9, none, .ld false 1 (.t 8)⟩), (2, ⟨some 10, none, .ixa 3 (.t 9) (.c (.int (.i64) 0))⟩), (3, ⟨some 11, none, .ld true 3 (.t 10)⟩), (4, ⟨some 12, none, .fa 2 2 (.t 1)⟩), (5, ⟨some 13, none, .ld false 1 (.t 12)⟩), (6, ⟨some 14, none, .ixa 3 (.t 13) (.c (.int (.i64) 0))⟩), (7, ⟨some 15, none, .fa 0 0 (.t 14)⟩), (8, ⟨some 16, none, .ld false 1 (.t 15)⟩), (9, ⟨some 17, none, .bin (.neq) (.t 16) (.c (.int (.i64) 1))⟩), (10, ⟨some 18, none, .call (.c (.fn (.func 64) [] [])) [.t 11, .t 17]⟩), (11, ⟨some 3, none, .mov (.t 18)⟩)] env H) : aw PP r6_FE_c41 K env H := aw_dreg_lexF _ _ B r6_FE_c41_okF h
def r6_FE_c42 : AC := .reg [⟨some 19, none, .fa 0 0 (.t 1)⟩, ⟨some 20, none, .ld false 1 (.t 19)⟩] [1, 19]
@[simp] theorem r6_FE_c42_eq : aw PP r6_FE_c42 K env H = awOps PP [⟨some 19, none, .fa 0 0 (.t 1)⟩, ⟨some 20, none, .ld false 1 (.t 19)⟩] (regK K [1, 19]) (panK K) env H := aw_reg _ _
def r6_FE_c43 : AC := .reg [⟨some 24, none, .bin (.eql) (.t 20) (.c (.int (.i64) 4))⟩, ⟨some 23, none, .mov (.t 24)⟩] [24]
@[simp] theorem r6_FE_c43_eq : aw PP r6_FE_c43 K env H = awOps PP [⟨some 24, none, .bin (.eql) (.t 20) (.c (.int (.i64) 4))⟩, ⟨some 23, none, .mov (.t 24)⟩] (regK K [24]) (panK K) env H := aw_reg _ _
def r6_FE_c44 : AC := .reg [⟨some 25, none, .mov (.t 3)⟩, ⟨some 26, none, .bin (.add) (.t 25) (.c (.str [63]))⟩, ⟨some 3, none, .mov (.t 26)⟩] [20, 23, 25, 26]
@[simp] theorem r6_FE_c44_eq : aw PP r6_FE_c44 K env H = awOps PP [⟨some 25, none, .mov (.t 3)⟩, ⟨some 26, none, .bin (.add) (.t 25) (.c (.str [63]))⟩, ⟨some 3, none, .mov (.t 26)⟩] (regK K [20, 23, 25, 26]) (panK K) env H := aw_reg _ _
def r6_FE_c45 : AC := .reg [⟨some 28, none, .bin (.eql) (.t 20) (.c (.int (.i64) 5))⟩, ⟨some 27, none, .mov (.t 28)⟩] [20, 23, 28]
@[simp] theorem r6_FE_c45_eq : aw PP r6_FE_c45 K env H = awOps PP [⟨some 28, none, .bin (.eql) (.t 20) (.c (.int (.i64) 5))⟩, ⟨some 27, none, .mov (.t 28)⟩] (regK K [20, 23, 28]) (panK K) env H := aw_reg _ _
def r6_FE_c46 : AC := .reg [⟨some 29, none, .mov (.t 3)⟩, ⟨some 30, none, .bin (.add) (.t 29) (.c (.str [42]))⟩, ⟨some 3, none, .mov (.t 30)⟩] [27, 29, 30]
@[simp] theorem r6_FE_c46_eq : aw PP r6_FE_c46 K env H = awOps PP [⟨some 29, none, .mov (.t 3)⟩, ⟨some 30, none, .bin (.add) (.t 29) (.c (.str [42]))⟩, ⟨some 3, none, .mov (.t 30)⟩] (regK K [27, 29, 30]) (panK K) env H := aw_reg _ _
def r6_FE_c47 : AC := .reg [⟨some 21, none, .mov (.t 3)⟩, ⟨some 22, none, .bin (.add) (.t 21) (.c (.str [43]))⟩, ⟨some 3, none, .mov (.t 22)⟩] [21, 22, 27]
@[simp] theorem r6_FE_c47_eq : aw PP r6_FE_c47 K env H = awOps PP [⟨some 21, none, .mov (.t 3)⟩, ⟨some 22, none, .bin (.add) (.t 21) (.c (.str [43]))⟩, ⟨some 3, none, .mov (.t 22)⟩] (regK K [21, 22, 27]) (panK K) env H := aw_reg _ _
def r6_FE_c48 : AC := .cond (.t 27) r6_FE_c46 r6_FE_c47
@[simp] theorem r6_FE_c48_eq : aw PP r6_FE_c48 K env H = condQ PP (Opd.ev env (.t 27)) r6_FE_c46 r6_FE_c47 K env H := aw_cond _ r6_FE_c46 r6_FE_c47
def r6_FE_c49 : AC := .seq r6_FE_c45 r6_FE_c48
@[simp] theorem r6_FE_c49_eq : aw PP r6_FE_c49 K env H = aw PP r6_FE_c45 (seqK PP r6_FE_c48 K) env H := aw_seq r6_FE_c45 r6_FE_c48
def r6_FE_c50 : AC := .cond (.t 23) r6_FE_c44 r6_FE_c49
@[simp] theorem r6_FE_c50_eq : aw PP r6_FE_c50 K env H = condQ PP (Opd.ev env (.t 23)) r6_FE_c44 r6_FE_c49 K env H := aw_cond _ r6_FE_c44 r6_FE_c49
def r6_FE_c51 : AC := .seq r6_FE_c43 r6_FE_c50
@[simp] theorem r6_FE_c51_eq : aw PP r6_FE_c51 K env H = aw PP r6_FE_c43 (seqK PP r6_FE_c50 K) env H := aw_seq r6_FE_c43 r6_FE_c50
def r6_FE_c52 : AC := .block 1 r6_FE_c51
@[simp] theorem r6_FE_c52_eq : aw PP r6_FE_c52 K env H = aw PP r6_FE_c51 (blockK 1 K) env H := aw_block _ r6_FE_c51
def r6_FE_c53 : AC := .seq r6_FE_c42 r6_FE_c52
@[simp] theorem r6_FE_c53_eq : aw PP r6_FE_c53 K env H = aw PP r6_FE_c42 (seqK PP r6_FE_c52 K) env H := aw_seq r6_FE_c42 r6_FE_c52
def r6_FE_c54 : AC := .seq r6_FE_c41 r6_FE_c53
@[simp] theorem r6_FE_c54_eq : aw PP r6_FE_c54 K env H = aw PP r6_FE_c41 (seqK PP r6_FE_c53 K) env H := aw_seq r6_FE_c41 r6_FE_c53
def r6_FE_c55 : AC := .cond (.t 72) r6_FE_c40 r6_FE_c54
@[simp] theorem r6_FE_c55_eq : aw PP r6_FE_c55 K env H = condQ PP (Opd.ev env (.t 72)) r6_FE_c40 r6_FE_c54 K env H := aw_cond _ r6_FE_c40 r6_FE_c54
def r6_FE_c56 : AC := .seq r6_FE_c23 r6_FE_c55
@[simp] theorem r6_FE_c56_eq : aw PP r6_FE_c56 K env H = aw PP r6_FE_c23 (seqK PP r6_FE_c55 K) env H := aw_seq r6_FE_c23 r6_FE_c55
def r6_FE_c57 : AC := .cond (.t 35) r6_FE_c22 r6_FE_c56
@[simp] theorem r6_FE_c57_eq : aw PP r6_FE_c57 K env H = condQ PP (Opd.ev env (.t 35)) r6_FE_c22 r6_FE_c56 K env H := aw_cond _ r6_FE_c22 r6_FE_c56
def r6_FE_c58 : AC := .seq r6_FE_c5 r6_FE_c57
@[simp] theorem r6_FE_c58_eq : aw PP r6_FE_c58 K env H = aw PP r6_FE_c5 (seqK PP r6_FE_c57 K) env H := aw_seq r6_FE_c5 r6_FE_c57
def r6_FE_c59 : AC := .cond (.t 31) r6_FE_c4 r6_FE_c58
@[simp] theorem r6_FE_c59_eq : aw PP r6_FE_c59 K env H = condQ PP (Opd.ev env (.t 31)) r6_FE_c4 r6_FE_c58 K env H := aw_cond _ r6_FE_c4 r6_FE_c58
def r6_FE_c60 : AC := .seq r6_FE_c3 r6_FE_c59
@[simp] theorem r6_FE_c60_eq : aw PP r6_FE_c60 K env H = aw PP r6_FE_c3 (seqK PP r6_FE_c59 K) env H := aw_seq r6_FE_c3 r6_FE_c59
def r6_FE_c61 : AC := .block 0 r6_FE_c60
@[simp] theorem r6_FE_c61_eq : aw PP r6_FE_c61 K env H = aw PP r6_FE_c60 (blockK 0 K) env H := aw_block _ r6_FE_c60
def r6_FE_c62 : AC := .seq r6_FE_c2 r6_FE_c61
@[simp] theorem r6_FE_c62_eq : aw PP r6_FE_c62 K env H = aw PP r6_FE_c2 (seqK PP r6_FE_c61 K) env H := aw_seq r6_FE_c2 r6_FE_c61
def r6_FE_c63 : AC := .reg [⟨some 119, none, .mov (.t 3)⟩, ⟨some 2, none, .mov (.t 119)⟩] [1, 3, 4, 5, 41, 78, 119]
@[simp] theorem r6_FE_c63_eq : aw PP r6_FE_c63 K env H = awOps PP [⟨some 119, none, .mov (.t 3)⟩, ⟨some 2, none, .mov (.t 119)⟩] (regK K [1, 3, 4, 5, 41, 78, 119]) (panK K) env H := aw_reg _ _
def r6_FE_c64 : AC := .seq r6_FE_c63 .ret
@[simp] theorem r6_FE_c64_eq : aw PP r6_FE_c64 K env H = aw PP r6_FE_c63 (seqK PP .ret K) env H := aw_seq r6_FE_c63 .ret
def r6_FE_c65 : AC := .seq r6_FE_c62 r6_FE_c64
@[simp] theorem r6_FE_c65_eq : aw PP r6_FE_c65 K env H = aw PP r6_FE_c62 (seqK PP r6_FE_c64 K) env H := aw_seq r6_FE_c62 r6_FE_c64
def r6_FE_c66 : AC := .seq r6_FE_c1 r6_FE_c65
@[simp] theorem r6_FE_c66_eq : aw PP r6_FE_c66 K env H = aw PP r6_FE_c1 (seqK PP r6_FE_c65 K) env H := aw_seq r6_FE_c1 r6_FE_c65
def r6_FE_c67 : AC := .seq r6_FE_c0 r6_FE_c66
@[simp] theorem r6_FE_c67_eq : aw PP r6_FE_c67 K env H = aw PP r6_FE_c0 (seqK PP r6_FE_c66 K) env H := aw_seq r6_FE_c0 r6_FE_c66
def r6_FE_ac : AC := r6_FE_c67
@[simp] theorem r6_FE_ac_eq : aw PP r6_FE_ac K env H = aw PP r6_FE_c67 K env H := Eq.trans rfl rfl
def r6_FE_rs : List ARV := [.tmp 2]
abbrev r6_FE_id : Nat := 86
theorem r6_FE_comp : compF PP r6_FE_kl r6_FE_ow 1 Tryd.f86 = some (r6_FE_ac, r6_FE_rs) := by kernel_rfl
theorem r6_FE_enter {args : List AV} {H : AHeap} {post : ARes → AHeap → Prop} (ha : args.length = 1) (h : aw PP r6_FE_ac (retK r6_FE_rs post) (argEnv 0 args) H) : ACalls PP r6_FE_id args H post := .enterF Tryd.func86 PP_mix r6_FE_comp ha h

/-! emendate.emendateref16.kid -/
def r6_kid_kl : Nat → List Nat
  | 0 => [0, 4]
  | 1 => [1]
  | 2 => [2, 5, 6, 7, 8, 9]
  | 3 => [2, 5, 10, 11]
  | _ => []
def r6_kid_ow : Nat → Nat → Bool := fun _ _ => false
def r6_kid_c0 : AC := .reg [⟨some 2, none, .box (.t 0) 3 33⟩, ⟨some 4, none, .mov (.c (.str []))⟩] [0, 4]
@[simp] theorem r6_kid_c0_eq : aw PP r6_kid_c0 K env H = awOps PP [⟨some 2, none, .box (.t 0) 3 33⟩, ⟨some 4, none, .mov (.c (.str []))⟩] (regK K [0, 4]) (panK K) env H := aw_reg _ _
def r6_kid_c1 : AC := .reg [⟨some 5, none, .mov (.t 1)⟩] [1]
@[simp] theorem r6_kid_c1_eq : aw PP r6_kid_c1 K env H = awOps PP [⟨some 5, none, .mov (.t 1)⟩] (regK K [1]) (panK K) env H := aw_reg _ _
def r6_kid_c2 : AC := .reg [⟨some 6, none, .ld true 3 (.t 2)⟩, ⟨some 7, none, .call (.c (.fn (.func 86) [] [])) [.t 6]⟩, ⟨some 8, none, .bin (.add) (.c (.str [40])) (.t 7)⟩, ⟨some 9, none, .bin (.add) (.t 8) (.c (.str [41]))⟩, ⟨some 4, none, .mov (.t 9)⟩] [2, 5, 6, 7, 8, 9]
@[simp] theorem r6_kid_c2_eq : aw PP r6_kid_c2 K env H = awOps PP [⟨some 6, none, .ld true 3 (.t 2)⟩, ⟨some 7, none, .call (.c (.fn (.func 86) [] [])) [.t 6]⟩, ⟨some 8, none, .bin (.add) (.c (.str [40])) (.t 7)⟩, ⟨some 9, none, .bin (.add) (.t 8) (.c (.str [41]))⟩, ⟨some 4, none, .mov (.t 9)⟩] (regK K [2, 5, 6, 7, 8, 9]) (panK K) env H := aw_reg _ _
def r6_kid_c3 : AC := .seq r6_kid_c2 .ret
@[simp] theorem r6_kid_c3_eq : aw PP r6_kid_c3 K env H = aw PP r6_kid_c2 (seqK PP .ret K) env H := aw_seq r6_kid_c2 .ret
def r6_kid_c4 : AC := .cond (.t 5) r6_kid_c3 .skip
@[simp] theorem r6_kid_c4_eq : aw PP r6_kid_c4 K env H = condQ PP (Opd.ev env (.t 5)) r6_kid_c3 .skip K env H := aw_cond _ r6_kid_c3 .skip
def r6_kid_c5 : AC := .seq r6_kid_c1 r6_kid_c4
@[simp] theorem r6_kid_c5_eq : aw PP r6_kid_c5 K env H = aw PP r6_kid_c1 (seqK PP r6_kid_c4 K) env H := aw_seq r6_kid_c1 r6_kid_c4
def r6_kid_c6 : AC := .reg [⟨some 10, none, .ld true 3 (.t 2)⟩, ⟨some 11, none, .call (.c (.fn (.func 86) [] [])) [.t 10]⟩, ⟨some 4, none, .mov (.t 11)⟩] [2, 5, 10, 11]
@[simp] theorem r6_kid_c6_eq : aw PP r6_kid_c6 K env H = awOps PP [⟨some 10, none, .ld true 3 (.t 2)⟩, ⟨some 11, none, .call (.c (.fn (.func 86) [] [])) [.t 10]⟩, ⟨some 4, none, .mov (.t 11)⟩] (regK K [2, 5, 10, 11]) (panK K) env H := aw_reg _ _
def r6_kid_c7 : AC := .seq r6_kid_c6 .ret
@[simp] theorem r6_kid_c7_eq : aw PP r6_kid_c7 K env H = aw PP r6_kid_c6 (seqK PP .ret K) env H := aw_seq r6_kid_c6 .ret
def r6_kid_c8 : AC := .seq r6_kid_c5 r6_kid_c7
@[simp] theorem r6_kid_c8_eq : aw PP r6_kid_c8 K env H = aw PP r6_kid_c5 (seqK PP r6_kid_c7 K) env H := aw_seq r6_kid_c5 r6_kid_c7
def r6_kid_c9 : AC := .seq r6_kid_c0 r6_kid_c8
@[simp] theorem r6_kid_c9_eq : aw PP r6_kid_c9 K env H = aw PP r6_kid_c0 (seqK PP r6_kid_c8 K) env H := aw_seq r6_kid_c0 r6_kid_c8
def r6_kid_ac : AC := r6_kid_c9
@[simp] theorem r6_kid_ac_eq : aw PP r6_kid_ac K env H = aw PP r6_kid_c9 K env H := Eq.trans rfl rfl
def r6_kid_rs : List ARV := [.tmp 4]
abbrev r6_kid_id : Nat := 64
theorem r6_kid_comp : compF PP r6_kid_kl r6_kid_ow 2 Tryd.f64 = some (r6_kid_ac, r6_kid_rs) := by kernel_rfl
theorem r6_kid_enter {args : List AV} {H : AHeap} {post : ARes → AHeap → Prop} (ha : args.length = 2) (h : aw PP r6_kid_ac (retK r6_kid_rs post) (argEnv 0 args) H) : ACalls PP r6_kid_id args H post := .enterF Tryd.func64 PP_mix r6_kid_comp ha h

/-! emendate.emendateref16.Decimal -/
def r6_Decimal_kl : Nat → List Nat
  | 0 => [2]
  | 1 => [4, 5, 6, 7, 8, 9]
  | 2 => [10, 11]
  | 3 => [12]
  | 4 => [14, 15]
  | 5 => [13, 16, 17, 18, 19, 20, 21, 22, 23]
  | 6 => [0, 3, 13, 24]
  | _ => []
def r6_Decimal_ow : Nat → Nat → Bool := fun _ _ => false
def r6_Decimal_c0 : AC := .reg [⟨some 2, none, .mov (.c (.str []))⟩] [2]
@[simp] theorem r6_Decimal_c0_eq : aw PP r6_Decimal_c0 K env H = awOps PP [⟨some 2, none, .mov (.c (.str []))⟩] (regK K [2]) (panK K) env H := aw_reg _ _
def r6_Decimal_c1 : AC := .reg [⟨some 4, none, .mov (.t 0)⟩, ⟨some 5, none, .bin (.rem) (.t 4) (.c (.int (.i64) 10))⟩, ⟨some 6, none, .bin (.add) (.c (.int (.i64) 48)) (.t 5)⟩, ⟨some 7, none, .conv (.u8) (.t 6)⟩, ⟨some 8, none, .bsl false 5 1 1 (.int (.u8) 0) [(0, .t 7)]⟩, ⟨some 9, none, .b2s (.t 8)⟩, ⟨some 3, none, .mov (.t 9)⟩] [4, 5, 6, 7, 8, 9]
@[simp] theorem r6_Decimal_c1_eq : aw PP r6_Decimal_c1 K env H = awOps PP [⟨some 4, none, .mov (.t 0)⟩, ⟨some 5, none, .bin (.rem) (.t 4) (.c (.int (.i64) 10))⟩, ⟨some 6, none, .bin (.add) (.c (.int (.i64) 48)) (.t 5)⟩, ⟨some 7, none, .conv (.u8) (.t 6)⟩, ⟨some 8, none, .bsl false 5 1 1 (.int (.u8) 0) [(0, .t 7)]⟩, ⟨some 9, none, .b2s (.t 8)⟩, ⟨some 3, none, .mov (.t 9)⟩] (regK K [4, 5, 6, 7, 8, 9]) (panK K) env H := aw_reg _ _
def r6_Decimal_c2 : AC := .reg [⟨some 10, none, .mov (.t 0)⟩, ⟨some 11, none, .bin (.quo) (.t 10) (.c (.int (.i64) 10))⟩, ⟨some 0, none, .mov (.t 11)⟩] [10, 11]
@[simp] theorem r6_Decimal_c2_eq : aw PP r6_Decimal_c2 K env H = awOps PP [⟨some 10, none, .mov (.t 0)⟩, ⟨some 11, none, .bin (.quo) (.t 10) (.c (.int (.i64) 10))⟩, ⟨some 0, none, .mov (.t 11)⟩] (regK K [10, 11]) (panK K) env H := aw_reg _ _
def r6_Decimal_c3 : AC := .reg [⟨some 12, none, .mov (.t 0)⟩, ⟨some 13, none, .bin (.gtr) (.t 12) (.c (.int (.i64) 0))⟩] [12]
@[simp] theorem r6_Decimal_c3_eq : aw PP r6_Decimal_c3 K env H = awOps PP [⟨some 12, none, .mov (.t 0)⟩, ⟨some 13, none, .bin (.gtr) (.t 12) (.c (.int (.i64) 0))⟩] (regK K [12]) (panK K) env H := aw_reg _ _
def r6_Decimal_c4 : AC := .cond (.t 13) .skip (.exit 0)
@[simp] theorem r6_Decimal_c4_eq : aw PP r6_Decimal_c4 K env H = condQ PP (Opd.ev env (.t 13)) .skip (.exit 0) K env H := aw_cond _ .skip (.exit 0)
def r6_Decimal_c5 : AC := .seq r6_Decimal_c3 r6_Decimal_c4
@[simp] theorem r6_Decimal_c5_eq : aw PP r6_Decimal_c5 K env H = aw PP r6_Decimal_c3 (seqK PP r6_Decimal_c4 K) env H := aw_seq r6_Decimal_c3 r6_Decimal_c4
def r6_Decimal_c6 : AC := .reg [⟨some 16, none, .mov (.t 0)⟩, ⟨some 17, none, .bin (.rem) (.t 16) (.c (.int (.i64) 10))⟩, ⟨some 18, none, .bin (.add) (.c (.int (.i64) 48)) (.t 17)⟩, ⟨some 19, none, .conv (.u8) (.t 18)⟩, ⟨some 20, none, .bsl false 5 1 1 (.int (.u8) 0) [(0, .t 19)]⟩, ⟨some 21, none, .b2s (.t 20)⟩, ⟨some 22, none, .mov (.t 3)⟩, ⟨some 23, none, .bin (.add) (.t 21) (.t 22)⟩, ⟨some 3, none, .mov (.t 23)⟩] [13, 16, 17, 18, 19, 20, 21, 22, 23]
@[simp] theorem r6_Decimal_c6_eq : aw PP r6_Decimal_c6 K env H = awOps PP [⟨some 16, none, .mov (.t 0)⟩, ⟨some 17, none, .bin (.rem) (.t 16) (.c (.int (.i64) 10))⟩, ⟨some 18, none, .bin (.add) (.c (.int (.i64) 48)) (.t 17)⟩, ⟨some 19, none, .conv (.u8) (.t 18)⟩, ⟨some 20, none, .bsl false 5 1 1 (.int (.u8) 0) [(0, .t 19)]⟩, ⟨some 21, none, .b2s (.t 20)⟩, ⟨some 22, none, .mov (.t 3)⟩, ⟨some 23, none, .bin (.add) (.t 21) (.t 22)⟩, ⟨some 3, none, .mov (.t 23)⟩] (regK K [13, 16, 17, 18, 19, 20, 21, 22, 23]) (panK K) env H := aw_reg _ _
def r6_Decimal_c7 : AC := .block 1 r6_Decimal_c6
@[simp] theorem r6_Decimal_c7_eq : aw PP r6_Decimal_c7 K env H = aw PP r6_Decimal_c6 (blockK 1 K) env H := aw_block _ r6_Decimal_c6
def r6_Decimal_c8 : AC := .reg [⟨some 14, none, .mov (.t 0)⟩, ⟨some 15, none, .bin (.quo) (.t 14) (.c (.int (.i64) 10))⟩, ⟨some 0, none, .mov (.t 15)⟩] [14, 15]
@[simp] theorem r6_Decimal_c8_eq : aw PP r6_Decimal_c8 K env H = awOps PP [⟨some 14, none, .mov (.t 0)⟩, ⟨some 15, none, .bin (.quo) (.t 14) (.c (.int (.i64) 10))⟩, ⟨some 0, none, .mov (.t 15)⟩] (regK K [14, 15]) (panK K) env H := aw_reg _ _
def r6_Decimal_c9 : AC := .seq r6_Decimal_c7 r6_Decimal_c8
@[simp] theorem r6_Decimal_c9_eq : aw PP r6_Decimal_c9 K env H = aw PP r6_Decimal_c7 (seqK PP r6_Decimal_c8 K) env H := aw_seq r6_Decimal_c7 r6_Decimal_c8
def r6_Decimal_c10 : AC := .seq r6_Decimal_c5 r6_Decimal_c9
@[simp] theorem r6_Decimal_c10_eq : aw PP r6_Decimal_c10 K env H = aw PP r6_Decimal_c5 (seqK PP r6_Decimal_c9 K) env H := aw_seq r6_Decimal_c5 r6_Decimal_c9
def r6_Decimal_c11 : AC := .loop r6_Decimal_c10
def r6_Decimal_c12 : AC := .block 0 r6_Decimal_c11
@[simp] theorem r6_Decimal_c12_eq : aw PP r6_Decimal_c12 K env H = aw PP r6_Decimal_c11 (blockK 0 K) env H := aw_block _ r6_Decimal_c11
def r6_Decimal_c13 : AC := .seq r6_Decimal_c2 r6_Decimal_c12
@[simp] theorem r6_Decimal_c13_eq : aw PP r6_Decimal_c13 K env H = aw PP r6_Decimal_c2 (seqK PP r6_Decimal_c12 K) env H := aw_seq r6_Decimal_c2 r6_Decimal_c12
def r6_Decimal_c14 : AC := .reg [⟨some 24, none, .mov (.t 3)⟩, ⟨some 2, none, .mov (.t 24)⟩] [0, 3, 13, 24]
@[simp] theorem r6_Decimal_c14_eq : aw PP r6_Decimal_c14 K env H = awOps PP [⟨some 24, none, .mov (.t 3)⟩, ⟨some 2, none, .mov (.t 24)⟩] (regK K [0, 3, 13, 24]) (panK K) env H := aw_reg _ _
def r6_Decimal_c15 : AC := .seq r6_Decimal_c14 .ret
@[simp] theorem r6_Decimal_c15_eq : aw PP r6_Decimal_c15 K env H = aw PP r6_Decimal_c14 (seqK PP .ret K) env H := aw_seq r6_Decimal_c14 .ret
def r6_Decimal_c16 : AC := .seq r6_Decimal_c13 r6_Decimal_c15
@[simp] theorem r6_Decimal_c16_eq : aw PP r6_Decimal_c16 K env H = aw PP r6_Decimal_c13 (seqK PP r6_Decimal_c15 K) env H := aw_seq r6_Decimal_c13 r6_Decimal_c15
def r6_Decimal_c17 : AC := .seq r6_Decimal_c1 r6_Decimal_c16
@[simp] theorem r6_Decimal_c17_eq : aw PP r6_Decimal_c17 K env H = aw PP r6_Decimal_c1 (seqK PP r6_Decimal_c16 K) env H := aw_seq r6_Decimal_c1 r6_Decimal_c16
def r6_Decimal_c18 : AC := .seq r6_Decimal_c0 r6_Decimal_c17
@[simp] theorem r6_Decimal_c18_eq : aw PP r6_Decimal_c18 K env H = aw PP r6_Decimal_c0 (seqK PP r6_Decimal_c17 K) env H := aw_seq r6_Decimal_c0 r6_Decimal_c17
def r6_Decimal_ac : AC := r6_Decimal_c18
@[simp] theorem r6_Decimal_ac_eq : aw PP r6_Decimal_ac K env H = aw PP r6_Decimal_c18 K env H := Eq.trans rfl rfl
def r6_Decimal_rs : List ARV := [.tmp 2]
abbrev r6_Decimal_id : Nat := 65
theorem r6_Decimal_comp : compF PP r6_Decimal_kl r6_Decimal_ow 1 Tryd.f65 = some (r6_Decimal_ac, r6_Decimal_rs) := by kernel_rfl
theorem r6_Decimal_enter {args : List AV} {H : AHeap} {post : ARes → AHeap → Prop} (ha : args.length = 1) (h : aw PP r6_Decimal_ac (retK r6_Decimal_rs post) (argEnv 0 args) H) : ACalls PP r6_Decimal_id args H post := .enterF Tryd.func65 PP_mix r6_Decimal_comp ha h

/-! emendate.emendateref16.alternative -/
def r6_al_kl : Nat → List Nat
  | 0 => [0, 2]
  | 2 => [4, 5, 6, 7, 8, 9, 10, 11, 12, 13]
  | 3 => [14, 15, 16, 17, 18, 19, 20, 21, 22]
  | 4 => [14, 23, 24]
  | 5 => [1, 25, 26, 27, 28, 29, 30, 31]
  | 6 => [1, 3, 25, 32]
  | _ => []
def r6_al_ow : Nat → Nat → Bool := fun _ _ => false
def r6_al_c0 : AC := .reg [⟨some 1, none, .box (.t 0) 4 38⟩, ⟨some 2, none, .mov (.c (.str []))⟩] [0, 2]
@[simp] theorem r6_al_c0_eq : aw PP r6_al_c0 K env H = awOps PP [⟨some 1, none, .box (.t 0) 4 38⟩, ⟨some 2, none, .mov (.c (.str []))⟩] (regK K [0, 2]) (panK K) env H := aw_reg _ _
def r6_al_c1 : AC := .reg [⟨some 3, none, .mov (.c (.str []))⟩] []
@[simp] theorem r6_al_c1_eq : aw PP r6_al_c1 K env H = awOps PP [⟨some 3, none, .mov (.c (.str []))⟩] (regK K []) (panK K) env H := aw_reg _ _
def r6_al_c2 : AC := .reg [⟨some 4, none, .fa 0 0 (.t 1)⟩, ⟨some 5, none, .fa 0 0 (.t 4)⟩, ⟨some 6, none, .ld false 1 (.t 5)⟩, ⟨some 7, none, .bin (.neq) (.t 6) (.c (.int (.i64) 2))⟩, ⟨some 8, none, .mov (.t 7)⟩, ⟨some 9, some (8, false), .fa 0 0 (.t 1)⟩, ⟨some 10, some (8, false), .fa 2 2 (.t 9)⟩, ⟨some 11, some (8, false), .ld false 1 (.t 10)⟩, ⟨some 12, some (8, false), .lenl (.t 11)⟩, ⟨some 13, some (8, false), .bin (.gtr) (.t 12) (.c (.int (.i64) 0))⟩, ⟨some 14, none, .pick (.t 8) (.c (.bool true)) (.t 13)⟩] [4, 5, 6, 7, 8, 9, 10, 11, 12, 13]
@[simp] theorem r6_al_c2_eq : aw PP r6_al_c2 K env H = awOps PP [⟨some 4, none, .fa 0 0 (.t 1)⟩, ⟨some 5, none, .fa 0 0 (.t 4)⟩, ⟨some 6, none, .ld false 1 (.t 5)⟩, ⟨some 7, none, .bin (.neq) (.t 6) (.c (.int (.i64) 2))⟩, ⟨some 8, none, .mov (.t 7)⟩, ⟨some 9, some (8, false), .fa 0 0 (.t 1)⟩, ⟨some 10, some (8, false), .fa 2 2 (.t 9)⟩, ⟨some 11, some (8, false), .ld false 1 (.t 10)⟩, ⟨some 12, some (8, false), .lenl (.t 11)⟩, ⟨some 13, some (8, false), .bin (.gtr) (.t 12) (.c (.int (.i64) 0))⟩, ⟨some 14, none, .pick (.t 8) (.c (.bool true)) (.t 13)⟩] (regK K [4, 5, 6, 7, 8, 9, 10, 11, 12, 13]) (panK K) env H := aw_reg _ _
def r6_al_c3 : AC := .reg [⟨some 15, none, .fa 0 0 (.t 1)⟩, ⟨some 16, none, .ld true 3 (.t 15)⟩, ⟨some 17, none, .fa 0 0 (.t 1)⟩, ⟨some 18, none, .fa 0 0 (.t 17)⟩, ⟨some 19, none, .ld false 1 (.t 18)⟩, ⟨some 20, none, .bin (.eql) (.t 19) (.c (.int (.i64) 3))⟩, ⟨some 21, none, .call (.c (.fn (.func 64) [] [])) [.t 16, .t 20]⟩, ⟨some 22, none, .bin (.add) (.c (.str [32])) (.t 21)⟩, ⟨some 3, none, .mov (.t 22)⟩] [14, 15, 16, 17, 18, 19, 20, 21, 22]
@[simp] theorem r6_al_c3_eq : aw PP r6_al_c3 K env H = awOps PP [⟨some 15, none, .fa 0 0 (.t 1)⟩, ⟨some 16, none, .ld true 3 (.t 15)⟩, ⟨some 17, none, .fa 0 0 (.t 1)⟩, ⟨some 18, none, .fa 0 0 (.t 17)⟩, ⟨some 19, none, .ld false 1 (.t 18)⟩, ⟨some 20, none, .bin (.eql) (.t 19) (.c (.int (.i64) 3))⟩, ⟨some 21, none, .call (.c (.fn (.func 64) [] [])) [.t 16, .t 20]⟩, ⟨some 22, none, .bin (.add) (.c (.str [32])) (.t 21)⟩, ⟨some 3, none, .mov (.t 22)⟩] (regK K [14, 15, 16, 17, 18, 19, 20, 21, 22]) (panK K) env H := aw_reg _ _
def r6_al_c4 : AC := .cond (.t 14) r6_al_c3 .skip
@[simp] theorem r6_al_c4_eq : aw PP r6_al_c4 K env H = condQ PP (Opd.ev env (.t 14)) r6_al_c3 .skip K env H := aw_cond _ r6_al_c3 .skip
def r6_al_c5 : AC := .seq r6_al_c2 r6_al_c4
@[simp] theorem r6_al_c5_eq : aw PP r6_al_c5 K env H = aw PP r6_al_c2 (seqK PP r6_al_c4 K) env H := aw_seq r6_al_c2 r6_al_c4
def r6_al_c6 : AC := .reg [⟨some 23, none, .fa 1 3 (.t 1)⟩, ⟨some 24, none, .ld false 1 (.t 23)⟩, ⟨some 25, none, .bin (.neq) (.t 24) (.c (.int (.i64) 0))⟩] [14, 23, 24]
@[simp] theorem r6_al_c6_eq : aw PP r6_al_c6 K env H = awOps PP [⟨some 23, none, .fa 1 3 (.t 1)⟩, ⟨some 24, none, .ld false 1 (.t 23)⟩, ⟨some 25, none, .bin (.neq) (.t 24) (.c (.int (.i64) 0))⟩] (regK K [14, 23, 24]) (panK K) env H := aw_reg _ _
def r6_al_c7 : AC := .reg [⟨some 26, none, .mov (.t 3)⟩, ⟨some 27, none, .bin (.add) (.t 26) (.c (.str [32, 112, 114, 105, 99, 101, 32]))⟩, ⟨some 28, none, .fa 1 3 (.t 1)⟩, ⟨some 29, none, .ld false 1 (.t 28)⟩, ⟨some 30, none, .call (.c (.fn (.func 65) [] [])) [.t 29]⟩, ⟨some 31, none, .bin (.add) (.t 27) (.t 30)⟩, ⟨some 3, none, .mov (.t 31)⟩] [1, 25, 26, 27, 28, 29, 30, 31]
@[simp] theorem r6_al_c7_eq : aw PP r6_al_c7 K env H = awOps PP [⟨some 26, none, .mov (.t 3)⟩, ⟨some 27, none, .bin (.add) (.t 26) (.c (.str [32, 112, 114, 105, 99, 101, 32]))⟩, ⟨some 28, none, .fa 1 3 (.t 1)⟩, ⟨some 29, none, .ld false 1 (.t 28)⟩, ⟨some 30, none, .call (.c (.fn (.func 65) [] [])) [.t 29]⟩, ⟨some 31, none, .bin (.add) (.t 27) (.t 30)⟩, ⟨some 3, none, .mov (.t 31)⟩] (regK K [1, 25, 26, 27, 28, 29, 30, 31]) (panK K) env H := aw_reg _ _
def r6_al_c8 : AC := .cond (.t 25) r6_al_c7 .skip
@[simp] theorem r6_al_c8_eq : aw PP r6_al_c8 K env H = condQ PP (Opd.ev env (.t 25)) r6_al_c7 .skip K env H := aw_cond _ r6_al_c7 .skip
def r6_al_c9 : AC := .seq r6_al_c6 r6_al_c8
@[simp] theorem r6_al_c9_eq : aw PP r6_al_c9 K env H = aw PP r6_al_c6 (seqK PP r6_al_c8 K) env H := aw_seq r6_al_c6 r6_al_c8
def r6_al_c10 : AC := .reg [⟨some 32, none, .mov (.t 3)⟩, ⟨some 2, none, .mov (.t 32)⟩] [1, 3, 25, 32]
@[simp] theorem r6_al_c10_eq : aw PP r6_al_c10 K env H = awOps PP [⟨some 32, none, .mov (.t 3)⟩, ⟨some 2, none, .mov (.t 32)⟩] (regK K [1, 3, 25, 32]) (panK K) env H := aw_reg _ _
def r6_al_c11 : AC := .seq r6_al_c10 .ret
@[simp] theorem r6_al_c11_eq : aw PP r6_al_c11 K env H = aw PP r6_al_c10 (seqK PP .ret K) env H := aw_seq r6_al_c10 .ret
def r6_al_c12 : AC := .seq r6_al_c9 r6_al_c11
@[simp] theorem r6_al_c12_eq : aw PP r6_al_c12 K env H = aw PP r6_al_c9 (seqK PP r6_al_c11 K) env H := aw_seq r6_al_c9 r6_al_c11
def r6_al_c13 : AC := .seq r6_al_c5 r6_al_c12
@[simp] theorem r6_al_c13_eq : aw PP r6_al_c13 K env H = aw PP r6_al_c5 (seqK PP r6_al_c12 K) env H := aw_seq r6_al_c5 r6_al_c12
def r6_al_c14 : AC := .seq r6_al_c1 r6_al_c13
@[simp] theorem r6_al_c14_eq : aw PP r6_al_c14 K env H = aw PP r6_al_c1 (seqK PP r6_al_c13 K) env H := aw_seq r6_al_c1 r6_al_c13
def r6_al_c15 : AC := .seq r6_al_c0 r6_al_c14
@[simp] theorem r6_al_c15_eq : aw PP r6_al_c15 K env H = aw PP r6_al_c0 (seqK PP r6_al_c14 K) env H := aw_seq r6_al_c0 r6_al_c14
def r6_al_ac : AC := r6_al_c15
@[simp] theorem r6_al_ac_eq : aw PP r6_al_ac K env H = aw PP r6_al_c15 K env H := Eq.trans rfl rfl
def r6_al_rs : List ARV := [.tmp 2]
abbrev r6_al_id : Nat := 45
theorem r6_al_comp : compF PP r6_al_kl r6_al_ow 1 Tryd.f45 = some (r6_al_ac, r6_al_rs) := by kernel_rfl
theorem r6_al_enter {args : List AV} {H : AHeap} {post : ARes → AHeap → Prop} (ha : args.length = 1) (h : aw PP r6_al_ac (retK r6_al_rs post) (argEnv 0 args) H) : ACalls PP r6_al_id args H post := .enterF Tryd.func45 PP_mix r6_al_comp ha h

/-! emendate.emendateref16.Format -/
def r6_Format_kl : Nat → List Nat
  | 0 => [0, 2]
  | 1 => [8, 9, 10, 11]
  | 3 => [12, 13, 14, 15]
  | 4 => [17, 18]
  | 5 => [16, 19, 20, 21, 22, 23]
  | 6 => [25, 26, 31]
  | 7 => [28]
  | 8 => [24, 27, 29, 30]
  | 9 => [24, 27, 32]
  | 10 => [31, 33, 34]
  | 12 => [35, 36, 37, 38, 39, 40, 41, 42]
  | 13 => [44, 45]
  | 14 => [43, 46, 47, 48, 49, 50, 51, 52, 53, 54, 55, 56, 57]
  | 15 => [5, 43, 58, 59]
  | 16 => [4, 16]
  | 17 => [60, 61, 62, 63]
  | 18 => [65, 66]
  | 19 => [64, 67, 68, 69, 70, 71, 72, 73, 74, 75]
  | 21 => [76, 77, 78, 79, 80, 81, 82, 83]
  | 22 => [85, 86]
  | 23 => [84, 87]
  | 24 => [88, 89, 90]
  | 25 => [88, 91, 92, 93, 94, 95, 96, 97, 98, 99, 100, 101, 102]
  | 26 => [7, 84, 103, 104]
  | 27 => [1, 3, 6, 64, 105]
  | _ => []
def r6_Format_ow : Nat → Nat → Bool := fun _ _ => false
def r6_Format_c0 : AC := .reg [⟨some 1, none, .box (.t 0) 3 25⟩, ⟨some 2, none, .mov (.c (.str []))⟩] [0, 2]
@[simp] theorem r6_Format_c0_eq : aw PP r6_Format_c0 K env H = awOps PP [⟨some 1, none, .box (.t 0) 3 25⟩, ⟨some 2, none, .mov (.c (.str []))⟩] (regK K [0, 2]) (panK K) env H := aw_reg _ _
def r6_Format_c1 : AC := .reg [⟨some 8, none, .fa 0 0 (.t 1)⟩, ⟨some 9, none, .ld false 1 (.t 8)⟩, ⟨some 10, none, .bin (.add) (.c (.str [115, 116, 97, 114, 116, 32])) (.t 9)⟩, ⟨some 11, none, .bin (.add) (.t 10) (.c (.str [59, 10]))⟩, ⟨some 3, none, .mov (.t 11)⟩] [8, 9, 10, 11]
@[simp] theorem r6_Format_c1_eq : aw PP r6_Format_c1 K env H = awOps PP [⟨some 8, none, .fa 0 0 (.t 1)⟩, ⟨some 9, none, .ld false 1 (.t 8)⟩, ⟨some 10, none, .bin (.add) (.c (.str [115, 116, 97, 114, 116, 32])) (.t 9)⟩, ⟨some 11, none, .bin (.add) (.t 10) (.c (.str [59, 10]))⟩, ⟨some 3, none, .mov (.t 11)⟩] (regK K [8, 9, 10, 11]) (panK K) env H := aw_reg _ _
def r6_Format_c2 : AC := .reg [⟨some 4, none, .mov (.c (.int (.i64) 0))⟩] []
@[simp] theorem r6_Format_c2_eq : aw PP r6_Format_c2 K env H = awOps PP [⟨some 4, none, .mov (.c (.int (.i64) 0))⟩] (regK K []) (panK K) env H := aw_reg _ _
def r6_Format_c3 : AC := .reg [⟨some 12, none, .mov (.t 4)⟩, ⟨some 13, none, .fa 1 1 (.t 1)⟩, ⟨some 14, none, .ld false 1 (.t 13)⟩, ⟨some 15, none, .lenl (.t 14)⟩, ⟨some 16, none, .bin (.lss) (.t 12) (.t 15)⟩] [12, 13, 14, 15]
@[simp] theorem r6_Format_c3_eq : aw PP r6_Format_c3 K env H = awOps PP [⟨some 12, none, .mov (.t 4)⟩, ⟨some 13, none, .fa 1 1 (.t 1)⟩, ⟨some 14, none, .ld false 1 (.t 13)⟩, ⟨some 15, none, .lenl (.t 14)⟩, ⟨some 16, none, .bin (.lss) (.t 12) (.t 15)⟩] (regK K [12, 13, 14, 15]) (panK K) env H := aw_reg _ _
def r6_Format_c4 : AC := .cond (.t 16) .skip (.exit 0)
@[simp] theorem r6_Format_c4_eq : aw PP r6_Format_c4 K env H = condQ PP (Opd.ev env (.t 16)) .skip (.exit 0) K env H := aw_cond _ .skip (.exit 0)
def r6_Format_c5 : AC := .seq r6_Format_c3 r6_Format_c4
@[simp] theorem r6_Format_c5_eq : aw PP r6_Format_c5 K env H = aw PP r6_Format_c3 (seqK PP r6_Format_c4 K) env H := aw_seq r6_Format_c3 r6_Format_c4
def r6_Format_c6 : AC := .reg [⟨some 19, none, .fa 1 1 (.t 1)⟩, ⟨some 20, none, .ld false 1 (.t 19)⟩, ⟨some 21, none, .mov (.t 4)⟩, ⟨some 22, none, .ixa 2 (.t 20) (.t 21)⟩, ⟨some 23, none, .fa 0 0 (.t 22)⟩, ⟨some 24, none, .ld false 1 (.t 23)⟩] [16, 19, 20, 21, 22, 23]
@[simp] theorem r6_Format_c6_eq : aw PP r6_Format_c6 K env H = awOps PP [⟨some 19, none, .fa 1 1 (.t 1)⟩, ⟨some 20, none, .ld false 1 (.t 19)⟩, ⟨some 21, none, .mov (.t 4)⟩, ⟨some 22, none, .ixa 2 (.t 20) (.t 21)⟩, ⟨some 23, none, .fa 0 0 (.t 22)⟩, ⟨some 24, none, .ld false 1 (.t 23)⟩] (regK K [16, 19, 20, 21, 22, 23]) (panK K) env H := aw_reg _ _
def r6_Format_c7 : AC := .reg [⟨some 28, none, .bin (.eql) (.t 24) (.c (.int (.i64) 1))⟩, ⟨some 27, none, .mov (.t 28)⟩] [28]
@[simp] theorem r6_Format_c7_eq : aw PP r6_Format_c7 K env H = awOps PP [⟨some 28, none, .bin (.eql) (.t 24) (.c (.int (.i64) 1))⟩, ⟨some 27, none, .mov (.t 28)⟩] (regK K [28]) (panK K) env H := aw_reg _ _
def r6_Format_c8 : AC := .reg [⟨some 29, none, .mov (.t 3)⟩, ⟨some 30, none, .bin (.add) (.t 29) (.c (.str [108, 101, 102, 116]))⟩, ⟨some 3, none, .mov (.t 30)⟩] [24, 27, 29, 30]
@[simp] theorem r6_Format_c8_eq : aw PP r6_Format_c8 K env H = awOps PP [⟨some 29, none, .mov (.t 3)⟩, ⟨some 30, none, .bin (.add) (.t 29) (.c (.str [108, 101, 102, 116]))⟩, ⟨some 3, none, .mov (.t 30)⟩] (regK K [24, 27, 29, 30]) (panK K) env H := aw_reg _ _
def r6_Format_c9 : AC := .reg [⟨some 32, none, .bin (.eql) (.t 24) (.c (.int (.i64) 2))⟩, ⟨some 31, none, .mov (.t 32)⟩] [24, 27, 32]
@[simp] theorem r6_Format_c9_eq : aw PP r6_Format_c9 K env H = awOps PP [⟨some 32, none, .bin (.eql) (.t 24) (.c (.int (.i64) 2))⟩, ⟨some 31, none, .mov (.t 32)⟩] (regK K [24, 27, 32]) (panK K) env H := aw_reg _ _
def r6_Format_c10 : AC := .reg [⟨some 33, none, .mov (.t 3)⟩, ⟨some 34, none, .bin (.add) (.t 33) (.c (.str [114, 105, 103, 104, 116]))⟩, ⟨some 3, none, .mov (.t 34)⟩] [31, 33, 34]
@[simp] theorem r6_Format_c10_eq : aw PP r6_Format_c10 K env H = awOps PP [⟨some 33, none, .mov (.t 3)⟩, ⟨some 34, none, .bin (.add) (.t 33) (.c (.str [114, 105, 103, 104, 116]))⟩, ⟨some 3, none, .mov (.t 34)⟩] (regK K [31, 33, 34]) (panK K) env H := aw_reg _ _
def r6_Format_c11 : AC := .reg [⟨some 25, none, .mov (.t 3)⟩, ⟨some 26, none, .bin (.add) (.t 25) (.c (.str [110, 111, 110, 101]))⟩, ⟨some 3, none, .mov (.t 26)⟩] [25, 26, 31]
@[simp] theorem r6_Format_c11_eq : aw PP r6_Format_c11 K env H = awOps PP [⟨some 25, none, .mov (.t 3)⟩, ⟨some 26, none, .bin (.add) (.t 25) (.c (.str [110, 111, 110, 101]))⟩, ⟨some 3, none, .mov (.t 26)⟩] (regK K [25, 26, 31]) (panK K) env H := aw_reg _ _
def r6_Format_c12 : AC := .cond (.t 31) r6_Format_c10 r6_Format_c11
@[simp] theorem r6_Format_c12_eq : aw PP r6_Format_c12 K env H = condQ PP (Opd.ev env (.t 31)) r6_Format_c10 r6_Format_c11 K env H := aw_cond _ r6_Format_c10 r6_Format_c11
def r6_Format_c13 : AC := .seq r6_Format_c9 r6_Format_c12
@[simp] theorem r6_Format_c13_eq : aw PP r6_Format_c13 K env H = aw PP r6_Format_c9 (seqK PP r6_Format_c12 K) env H := aw_seq r6_Format_c9 r6_Format_c12
def r6_Format_c14 : AC := .cond (.t 27) r6_Format_c8 r6_Format_c13
@[simp] theorem r6_Format_c14_eq : aw PP r6_Format_c14 K env H = condQ PP (Opd.ev env (.t 27)) r6_Format_c8 r6_Format_c13 K env H := aw_cond _ r6_Format_c8 r6_Format_c13
def r6_Format_c15 : AC := .seq r6_Format_c7 r6_Format_c14
@[simp] theorem r6_Format_c15_eq : aw PP r6_Format_c15 K env H = aw PP r6_Format_c7 (seqK PP r6_Format_c14 K) env H := aw_seq r6_Format_c7 r6_Format_c14
def r6_Format_c16 : AC := .block 2 r6_Format_c15
@[simp] theorem r6_Format_c16_eq : aw PP r6_Format_c16 K env H = aw PP r6_Format_c15 (blockK 2 K) env H := aw_block _ r6_Format_c15
def r6_Format_c17 : AC := .seq r6_Format_c6 r6_Format_c16
@[simp] theorem r6_Format_c17_eq : aw PP r6_Format_c17 K env H = aw PP r6_Format_c6 (seqK PP r6_Format_c16 K) env H := aw_seq r6_Format_c6 r6_Format_c16
def r6_Format_c18 : AC := .reg [⟨some 5, none, .mov (.c (.int (.i64) 0))⟩] []
@[simp] theorem r6_Format_c18_eq : aw PP r6_Format_c18 K env H = awOps PP [⟨some 5, none, .mov (.c (.int (.i64) 0))⟩] (regK K []) (panK K) env H := aw_reg _ _
def r6_Format_c19 : AC := .reg [⟨some 35, none, .mov (.t 5)⟩, ⟨some 36, none, .fa 1 1 (.t 1)⟩, ⟨some 37, none, .ld false 1 (.t 36)⟩, ⟨some 38, none, .mov (.t 4)⟩, ⟨some 39, none, .ixa 2 (.t 37) (.t 38)⟩, ⟨some 40, none, .fa 1 1 (.t 39)⟩, ⟨some 41, none, .ld false 1 (.t 40)⟩, ⟨some 42, none, .lenl (.t 41)⟩, ⟨some 43, none, .bin (.lss) (.t 35) (.t 42)⟩] [35, 36, 37, 38, 39, 40, 41, 42]
@[simp] theorem r6_Format_c19_eq : aw PP r6_Format_c19 K env H = awOps PP [⟨some 35, none, .mov (.t 5)⟩, ⟨some 36, none, .fa 1 1 (.t 1)⟩, ⟨some 37, none, .ld false 1 (.t 36)⟩, ⟨some 38, none, .mov (.t 4)⟩, ⟨some 39, none, .ixa 2 (.t 37) (.t 38)⟩, ⟨some 40, none, .fa 1 1 (.t 39)⟩, ⟨some 41, none, .ld false 1 (.t 40)⟩, ⟨some 42, none, .lenl (.t 41)⟩, ⟨some 43, none, .bin (.lss) (.t 35) (.t 42)⟩] (regK K [35, 36, 37, 38, 39, 40, 41, 42]) (panK K) env H := aw_reg _ _
def r6_Format_c20 : AC := .cond (.t 43) .skip (.exit 3)
@[simp] theorem r6_Format_c20_eq : aw PP r6_Format_c20 K env H = condQ PP (Opd.ev env (.t 43)) .skip (.exit 3) K env H := aw_cond _ .skip (.exit 3)
def r6_Format_c21 : AC := .seq r6_Format_c19 r6_Format_c20
@[simp] theorem r6_Format_c21_eq : aw PP r6_Format_c21 K env H = aw PP r6_Format_c19 (seqK PP r6_Format_c20 K) env H := aw_seq r6_Format_c19 r6_Format_c20
def r6_Format_c22 : AC := .reg [⟨some 46, none, .mov (.t 3)⟩, ⟨some 47, none, .bin (.add) (.t 46) (.c (.str [32]))⟩, ⟨some 48, none, .fa 1 1 (.t 1)⟩, ⟨some 49, none, .ld false 1 (.t 48)⟩, ⟨some 50, none, .mov (.t 4)⟩, ⟨some 51, none, .ixa 2 (.t 49) (.t 50)⟩, ⟨some 52, none, .fa 1 1 (.t 51)⟩, ⟨some 53, none, .ld false 1 (.t 52)⟩, ⟨some 54, none, .mov (.t 5)⟩, ⟨some 55, none, .ixa 1 (.t 53) (.t 54)⟩, ⟨some 56, none, .ld false 1 (.t 55)⟩, ⟨some 57, none, .bin (.add) (.t 47) (.t 56)⟩, ⟨some 3, none, .mov (.t 57)⟩] [43, 46, 47, 48, 49, 50, 51, 52, 53, 54, 55, 56, 57]
@[simp] theorem r6_Format_c22_eq : aw PP r6_Format_c22 K env H = awOps PP [⟨some 46, none, .mov (.t 3)⟩, ⟨some 47, none, .bin (.add) (.t 46) (.c (.str [32]))⟩, ⟨some 48, none, .fa 1 1 (.t 1)⟩, ⟨some 49, none, .ld false 1 (.t 48)⟩, ⟨some 50, none, .mov (.t 4)⟩, ⟨some 51, none, .ixa 2 (.t 49) (.t 50)⟩, ⟨some 52, none, .fa 1 1 (.t 51)⟩, ⟨some 53, none, .ld false 1 (.t 52)⟩, ⟨some 54, none, .mov (.t 5)⟩, ⟨some 55, none, .ixa 1 (.t 53) (.t 54)⟩, ⟨some 56, none, .ld false 1 (.t 55)⟩, ⟨some 57, none, .bin (.add) (.t 47) (.t 56)⟩, ⟨some 3, none, .mov (.t 57)⟩] (regK K [43, 46, 47, 48, 49, 50, 51, 52, 53, 54, 55, 56, 57]) (panK K) env H := aw_reg _ _
def r6_Format_c23 : AC := .block 4 r6_Format_c22
@[simp] theorem r6_Format_c23_eq : aw PP r6_Format_c23 K env H = aw PP r6_Format_c22 (blockK 4 K) env H := aw_block _ r6_Format_c22
def r6_Format_c24 : AC := .reg [⟨some 44, none, .mov (.t 5)⟩, ⟨some 45, none, .bin (.add) (.t 44) (.c (.int (.i64) 1))⟩, ⟨some 5, none, .mov (.t 45)⟩] [44, 45]
@[simp] theorem r6_Format_c24_eq : aw PP r6_Format_c24 K env H = awOps PP [⟨some 44, none, .mov (.t 5)⟩, ⟨some 45, none, .bin (.add) (.t 44) (.c (.int (.i64) 1))⟩, ⟨some 5, none, .mov (.t 45)⟩] (regK K [44, 45]) (panK K) env H := aw_reg _ _
def r6_Format_c25 : AC := .seq r6_Format_c23 r6_Format_c24
@[simp] theorem r6_Format_c25_eq : aw PP r6_Format_c25 K env H = aw PP r6_Format_c23 (seqK PP r6_Format_c24 K) env H := aw_seq r6_Format_c23 r6_Format_c24
def r6_Format_c26 : AC := .seq r6_Format_c21 r6_Format_c25
@[simp] theorem r6_Format_c26_eq : aw PP r6_Format_c26 K env H = aw PP r6_Format_c21 (seqK PP r6_Format_c25 K) env H := aw_seq r6_Format_c21 r6_Format_c25
def r6_Format_c27 : AC := .loop r6_Format_c26
def r6_Format_c28 : AC := .block 3 r6_Format_c27
@[simp] theorem r6_Format_c28_eq : aw PP r6_Format_c28 K env H = aw PP r6_Format_c27 (blockK 3 K) env H := aw_block _ r6_Format_c27
def r6_Format_c29 : AC := .seq r6_Format_c18 r6_Format_c28
@[simp] theorem r6_Format_c29_eq : aw PP r6_Format_c29 K env H = aw PP r6_Format_c18 (seqK PP r6_Format_c28 K) env H := aw_seq r6_Format_c18 r6_Format_c28
def r6_Format_c30 : AC := .reg [⟨some 58, none, .mov (.t 3)⟩, ⟨some 59, none, .bin (.add) (.t 58) (.c (.str [59, 10]))⟩, ⟨some 3, none, .mov (.t 59)⟩] [5, 43, 58, 59]
@[simp] theorem r6_Format_c30_eq : aw PP r6_Format_c30 K env H = awOps PP [⟨some 58, none, .mov (.t 3)⟩, ⟨some 59, none, .bin (.add) (.t 58) (.c (.str [59, 10]))⟩, ⟨some 3, none, .mov (.t 59)⟩] (regK K [5, 43, 58, 59]) (panK K) env H := aw_reg _ _
def r6_Format_c31 : AC := .seq r6_Format_c29 r6_Format_c30
@[simp] theorem r6_Format_c31_eq : aw PP r6_Format_c31 K env H = aw PP r6_Format_c29 (seqK PP r6_Format_c30 K) env H := aw_seq r6_Format_c29 r6_Format_c30
def r6_Format_c32 : AC := .seq r6_Format_c17 r6_Format_c31
@[simp] theorem r6_Format_c32_eq : aw PP r6_Format_c32 K env H = aw PP r6_Format_c17 (seqK PP r6_Format_c31 K) env H := aw_seq r6_Format_c17 r6_Format_c31
def r6_Format_c33 : AC := .block 1 r6_Format_c32
@[simp] theorem r6_Format_c33_eq : aw PP r6_Format_c33 K env H = aw PP r6_Format_c32 (blockK 1 K) env H := aw_block _ r6_Format_c32
def r6_Format_c34 : AC := .reg [⟨some 17, none, .mov (.t 4)⟩, ⟨some 18, none, .bin (.add) (.t 17) (.c (.int (.i64) 1))⟩, ⟨some 4, none, .mov (.t 18)⟩] [17, 18]
@[simp] theorem r6_Format_c34_eq : aw PP r6_Format_c34 K env H = awOps PP [⟨some 17, none, .mov (.t 4)⟩, ⟨some 18, none, .bin (.add) (.t 17) (.c (.int (.i64) 1))⟩, ⟨some 4, none, .mov (.t 18)⟩] (regK K [17, 18]) (panK K) env H := aw_reg _ _
def r6_Format_c35 : AC := .seq r6_Format_c33 r6_Format_c34
@[simp] theorem r6_Format_c35_eq : aw PP r6_Format_c35 K env H = aw PP r6_Format_c33 (seqK PP r6_Format_c34 K) env H := aw_seq r6_Format_c33 r6_Format_c34
def r6_Format_c36 : AC := .seq r6_Format_c5 r6_Format_c35
@[simp] theorem r6_Format_c36_eq : aw PP r6_Format_c36 K env H = aw PP r6_Format_c5 (seqK PP r6_Format_c35 K) env H := aw_seq r6_Format_c5 r6_Format_c35
def r6_Format_c37 : AC := .loop r6_Format_c36
def r6_Format_c38 : AC := .block 0 r6_Format_c37
@[simp] theorem r6_Format_c38_eq : aw PP r6_Format_c38 K env H = aw PP r6_Format_c37 (blockK 0 K) env H := aw_block _ r6_Format_c37
def r6_Format_c39 : AC := .seq r6_Format_c2 r6_Format_c38
@[simp] theorem r6_Format_c39_eq : aw PP r6_Format_c39 K env H = aw PP r6_Format_c2 (seqK PP r6_Format_c38 K) env H := aw_seq r6_Format_c2 r6_Format_c38
def r6_Format_c40 : AC := .reg [⟨some 6, none, .mov (.c (.int (.i64) 0))⟩] [4, 16]
@[simp] theorem r6_Format_c40_eq : aw PP r6_Format_c40 K env H = awOps PP [⟨some 6, none, .mov (.c (.int (.i64) 0))⟩] (regK K [4, 16]) (panK K) env H := aw_reg _ _
def r6_Format_c41 : AC := .reg [⟨some 60, none, .mov (.t 6)⟩, ⟨some 61, none, .fa 2 2 (.t 1)⟩, ⟨some 62, none, .ld false 1 (.t 61)⟩, ⟨some 63, none, .lenl (.t 62)⟩, ⟨some 64, none, .bin (.lss) (.t 60) (.t 63)⟩] [60, 61, 62, 63]
@[simp] theorem r6_Format_c41_eq : aw PP r6_Format_c41 K env H = awOps PP [⟨some 60, none, .mov (.t 6)⟩, ⟨some 61, none, .fa 2 2 (.t 1)⟩, ⟨some 62, none, .ld false 1 (.t 61)⟩, ⟨some 63, none, .lenl (.t 62)⟩, ⟨some 64, none, .bin (.lss) (.t 60) (.t 63)⟩] (regK K [60, 61, 62, 63]) (panK K) env H := aw_reg _ _
def r6_Format_c42 : AC := .cond (.t 64) .skip (.exit 5)
@[simp] theorem r6_Format_c42_eq : aw PP r6_Format_c42 K env H = condQ PP (Opd.ev env (.t 64)) .skip (.exit 5) K env H := aw_cond _ .skip (.exit 5)
def r6_Format_c43 : AC := .seq r6_Format_c41 r6_Format_c42
@[simp] theorem r6_Format_c43_eq : aw PP r6_Format_c43 K env H = aw PP r6_Format_c41 (seqK PP r6_Format_c42 K) env H := aw_seq r6_Format_c41 r6_Format_c42
def r6_Format_c44 : AC := .reg [⟨some 67, none, .mov (.t 3)⟩, ⟨some 68, none, .fa 2 2 (.t 1)⟩, ⟨some 69, none, .ld false 1 (.t 68)⟩, ⟨some 70, none, .mov (.t 6)⟩, ⟨some 71, none, .ixa 2 (.t 69) (.t 70)⟩, ⟨some 72, none, .fa 0 0 (.t 71)⟩, ⟨some 73, none, .ld false 1 (.t 72)⟩, ⟨some 74, none, .bin (.add) (.t 67) (.t 73)⟩, ⟨some 75, none, .bin (.add) (.t 74) (.c (.str [32, 61]))⟩, ⟨some 3, none, .mov (.t 75)⟩] [64, 67, 68, 69, 70, 71, 72, 73, 74, 75]
@[simp] theorem r6_Format_c44_eq : aw PP r6_Format_c44 K env H = awOps PP [⟨some 67, none, .mov (.t 3)⟩, ⟨some 68, none, .fa 2 2 (.t 1)⟩, ⟨some 69, none, .ld false 1 (.t 68)⟩, ⟨some 70, none, .mov (.t 6)⟩, ⟨some 71, none, .ixa 2 (.t 69) (.t 70)⟩, ⟨some 72, none, .fa 0 0 (.t 71)⟩, ⟨some 73, none, .ld false 1 (.t 72)⟩, ⟨some 74, none, .bin (.add) (.t 67) (.t 73)⟩, ⟨some 75, none, .bin (.add) (.t 74) (.c (.str [32, 61]))⟩, ⟨some 3, none, .mov (.t 75)⟩] (regK K [64, 67, 68, 69, 70, 71, 72, 73, 74, 75]) (panK K) env H := aw_reg _ _
def r6_Format_c45 : AC := .reg [⟨some 7, none, .mov (.c (.int (.i64) 0))⟩] []
@[simp] theorem r6_Format_c45_eq : aw PP r6_Format_c45 K env H = awOps PP [⟨some 7, none, .mov (.c (.int (.i64) 0))⟩] (regK K []) (panK K) env H := aw_reg _ _
def r6_Format_c46 : AC := .reg [⟨some 76, none, .mov (.t 7)⟩, ⟨some 77, none, .fa 2 2 (.t 1)⟩, ⟨some 78, none, .ld false 1 (.t 77)⟩, ⟨some 79, none, .mov (.t 6)⟩, ⟨some 80, none, .ixa 2 (.t 78) (.t 79)⟩, ⟨some 81, none, .fa 1 1 (.t 80)⟩, ⟨some 82, none, .ld false 1 (.t 81)⟩, ⟨some 83, none, .lenl (.t 82)⟩, ⟨some 84, none, .bin (.lss) (.t 76) (.t 83)⟩] [76, 77, 78, 79, 80, 81, 82, 83]
@[simp] theorem r6_Format_c46_eq : aw PP r6_Format_c46 K env H = awOps PP [⟨some 76, none, .mov (.t 7)⟩, ⟨some 77, none, .fa 2 2 (.t 1)⟩, ⟨some 78, none, .ld false 1 (.t 77)⟩, ⟨some 79, none, .mov (.t 6)⟩, ⟨some 80, none, .ixa 2 (.t 78) (.t 79)⟩, ⟨some 81, none, .fa 1 1 (.t 80)⟩, ⟨some 82, none, .ld false 1 (.t 81)⟩, ⟨some 83, none, .lenl (.t 82)⟩, ⟨some 84, none, .bin (.lss) (.t 76) (.t 83)⟩] (regK K [76, 77, 78, 79, 80, 81, 82, 83]) (panK K) env H := aw_reg _ _
def r6_Format_c47 : AC := .cond (.t 84) .skip (.exit 7)
@[simp] theorem r6_Format_c47_eq : aw PP r6_Format_c47 K env H = condQ PP (Opd.ev env (.t 84)) .skip (.exit 7) K env H := aw_cond _ .skip (.exit 7)
def r6_Format_c48 : AC := .seq r6_Format_c46 r6_Format_c47
@[simp] theorem r6_Format_c48_eq : aw PP r6_Format_c48 K env H = aw PP r6_Format_c46 (seqK PP r6_Format_c47 K) env H := aw_seq r6_Format_c46 r6_Format_c47
def r6_Format_c49 : AC := .reg [⟨some 87, none, .mov (.t 7)⟩, ⟨some 88, none, .bin (.gtr) (.t 87) (.c (.int (.i64) 0))⟩] [84, 87]
@[simp] theorem r6_Format_c49_eq : aw PP r6_Format_c49 K env H = awOps PP [⟨some 87, none, .mov (.t 7)⟩, ⟨some 88, none, .bin (.gtr) (.t 87) (.c (.int (.i64) 0))⟩] (regK K [84, 87]) (panK K) env H := aw_reg _ _
def r6_Format_c50 : AC := .reg [⟨some 89, none, .mov (.t 3)⟩, ⟨some 90, none, .bin (.add) (.t 89) (.c (.str [32, 124]))⟩, ⟨some 3, none, .mov (.t 90)⟩] [88, 89, 90]
@[simp] theorem r6_Format_c50_eq : aw PP r6_Format_c50 K env H = awOps PP [⟨some 89, none, .mov (.t 3)⟩, ⟨some 90, none, .bin (.add) (.t 89) (.c (.str [32, 124]))⟩, ⟨some 3, none, .mov (.t 90)⟩] (regK K [88, 89, 90]) (panK K) env H := aw_reg _ _
def r6_Format_c51 : AC := .cond (.t 88) r6_Format_c50 .skip
@[simp] theorem r6_Format_c51_eq : aw PP r6_Format_c51 K env H = condQ PP (Opd.ev env (.t 88)) r6_Format_c50 .skip K env H := aw_cond _ r6_Format_c50 .skip
def r6_Format_c52 : AC := .seq r6_Format_c49 r6_Format_c51
@[simp] theorem r6_Format_c52_eq : aw PP r6_Format_c52 K env H = aw PP r6_Format_c49 (seqK PP r6_Format_c51 K) env H := aw_seq r6_Format_c49 r6_Format_c51
def r6_Format_c53 : AC := .reg [⟨some 91, none, .mov (.t 3)⟩, ⟨some 92, none, .fa 2 2 (.t 1)⟩, ⟨some 93, none, .ld false 1 (.t 92)⟩, ⟨some 94, none, .mov (.t 6)⟩, ⟨some 95, none, .ixa 2 (.t 93) (.t 94)⟩, ⟨some 96, none, .fa 1 1 (.t 95)⟩, ⟨some 97, none, .ld false 1 (.t 96)⟩, ⟨some 98, none, .mov (.t 7)⟩, ⟨some 99, none, .ixa 4 (.t 97) (.t 98)⟩, ⟨some 100, none, .ld true 4 (.t 99)⟩, ⟨some 101, none, .call (.c (.fn (.func 45) [] [])) [.t 100]⟩, ⟨some 102, none, .bin (.add) (.t 91) (.t 101)⟩, ⟨some 3, none, .mov (.t 102)⟩] [88, 91, 92, 93, 94, 95, 96, 97, 98, 99, 100, 101, 102]
@[simp] theorem r6_Format_c53_eq : aw PP r6_Format_c53 K env H = awOps PP [⟨some 91, none, .mov (.t 3)⟩, ⟨some 92, none, .fa 2 2 (.t 1)⟩, ⟨some 93, none, .ld false 1 (.t 92)⟩, ⟨some 94, none, .mov (.t 6)⟩, ⟨some 95, none, .ixa 2 (.t 93) (.t 94)⟩, ⟨some 96, none, .fa 1 1 (.t 95)⟩, ⟨some 97, none, .ld false 1 (.t 96)⟩, ⟨some 98, none, .mov (.t 7)⟩, ⟨some 99, none, .ixa 4 (.t 97) (.t 98)⟩, ⟨some 100, none, .ld true 4 (.t 99)⟩, ⟨some 101, none, .call (.c (.fn (.func 45) [] [])) [.t 100]⟩, ⟨some 102, none, .bin (.add) (.t 91) (.t 101)⟩, ⟨some 3, none, .mov (.t 102)⟩] (regK K [88, 91, 92, 93, 94, 95, 96, 97, 98, 99, 100, 101, 102]) (panK K) env H := aw_reg _ _
def r6_Format_c54 : AC := .seq r6_Format_c52 r6_Format_c53
@[simp] theorem r6_Format_c54_eq : aw PP r6_Format_c54 K env H = aw PP r6_Format_c52 (seqK PP r6_Format_c53 K) env H := aw_seq r6_Format_c52 r6_Format_c53
def r6_Format_c55 : AC := .block 8 r6_Format_c54
@[simp] theorem r6_Format_c55_eq : aw PP r6_Format_c55 K env H = aw PP r6_Format_c54 (blockK 8 K) env H := aw_block _ r6_Format_c54
def r6_Format_c56 : AC := .reg [⟨some 85, none, .mov (.t 7)⟩, ⟨some 86, none, .bin (.add) (.t 85) (.c (.int (.i64) 1))⟩, ⟨some 7, none, .mov (.t 86)⟩] [85, 86]
@[simp] theorem r6_Format_c56_eq : aw PP r6_Format_c56 K env H = awOps PP [⟨some 85, none, .mov (.t 7)⟩, ⟨some 86, none, .bin (.add) (.t 85) (.c (.int (.i64) 1))⟩, ⟨some 7, none, .mov (.t 86)⟩] (regK K [85, 86]) (panK K) env H := aw_reg _ _
def r6_Format_c57 : AC := .seq r6_Format_c55 r6_Format_c56
@[simp] theorem r6_Format_c57_eq : aw PP r6_Format_c57 K env H = aw PP r6_Format_c55 (seqK PP r6_Format_c56 K) env H := aw_seq r6_Format_c55 r6_Format_c56
def r6_Format_c58 : AC := .seq r6_Format_c48 r6_Format_c57
@[simp] theorem r6_Format_c58_eq : aw PP r6_Format_c58 K env H = aw PP r6_Format_c48 (seqK PP r6_Format_c57 K) env H := aw_seq r6_Format_c48 r6_Format_c57
def r6_Format_c59 : AC := .loop r6_Format_c58
def r6_Format_c60 : AC := .block 7 r6_Format_c59
@[simp] theorem r6_Format_c60_eq : aw PP r6_Format_c60 K env H = aw PP r6_Format_c59 (blockK 7 K) env H := aw_block _ r6_Format_c59
def r6_Format_c61 : AC := .seq r6_Format_c45 r6_Format_c60
@[simp] theorem r6_Format_c61_eq : aw PP r6_Format_c61 K env H = aw PP r6_Format_c45 (seqK PP r6_Format_c60 K) env H := aw_seq r6_Format_c45 r6_Format_c60
def r6_Format_c62 : AC := .reg [⟨some 103, none, .mov (.t 3)⟩, ⟨some 104, none, .bin (.add) (.t 103) (.c (.str [59, 10]))⟩, ⟨some 3, none, .mov (.t 104)⟩] [7, 84, 103, 104]
@[simp] theorem r6_Format_c62_eq : aw PP r6_Format_c62 K env H = awOps PP [⟨some 103, none, .mov (.t 3)⟩, ⟨some 104, none, .bin (.add) (.t 103) (.c (.str [59, 10]))⟩, ⟨some 3, none, .mov (.t 104)⟩] (regK K [7, 84, 103, 104]) (panK K) env H := aw_reg _ _
def r6_Format_c63 : AC := .seq r6_Format_c61 r6_Format_c62
@[simp] theorem r6_Format_c63_eq : aw PP r6_Format_c63 K env H = aw PP r6_Format_c61 (seqK PP r6_Format_c62 K) env H := aw_seq r6_Format_c61 r6_Format_c62
def r6_Format_c64 : AC := .seq r6_Format_c44 r6_Format_c63
@[simp] theorem r6_Format_c64_eq : aw PP r6_Format_c64 K env H = aw PP r6_Format_c44 (seqK PP r6_Format_c63 K) env H := aw_seq r6_Format_c44 r6_Format_c63
def r6_Format_c65 : AC := .block 6 r6_Format_c64
@[simp] theorem r6_Format_c65_eq : aw PP r6_Format_c65 K env H = aw PP r6_Format_c64 (blockK 6 K) env H := aw_block _ r6_Format_c64
def r6_Format_c66 : AC := .reg [⟨some 65, none, .mov (.t 6)⟩, ⟨some 66, none, .bin (.add) (.t 65) (.c (.int (.i64) 1))⟩, ⟨some 6, none, .mov (.t 66)⟩] [65, 66]
@[simp] theorem r6_Format_c66_eq : aw PP r6_Format_c66 K env H = awOps PP [⟨some 65, none, .mov (.t 6)⟩, ⟨some 66, none, .bin (.add) (.t 65) (.c (.int (.i64) 1))⟩, ⟨some 6, none, .mov (.t 66)⟩] (regK K [65, 66]) (panK K) env H := aw_reg _ _
def r6_Format_c67 : AC := .seq r6_Format_c65 r6_Format_c66
@[simp] theorem r6_Format_c67_eq : aw PP r6_Format_c67 K env H = aw PP r6_Format_c65 (seqK PP r6_Format_c66 K) env H := aw_seq r6_Format_c65 r6_Format_c66
def r6_Format_c68 : AC := .seq r6_Format_c43 r6_Format_c67
@[simp] theorem r6_Format_c68_eq : aw PP r6_Format_c68 K env H = aw PP r6_Format_c43 (seqK PP r6_Format_c67 K) env H := aw_seq r6_Format_c43 r6_Format_c67
def r6_Format_c69 : AC := .loop r6_Format_c68
def r6_Format_c70 : AC := .block 5 r6_Format_c69
@[simp] theorem r6_Format_c70_eq : aw PP r6_Format_c70 K env H = aw PP r6_Format_c69 (blockK 5 K) env H := aw_block _ r6_Format_c69
def r6_Format_c71 : AC := .seq r6_Format_c40 r6_Format_c70
@[simp] theorem r6_Format_c71_eq : aw PP r6_Format_c71 K env H = aw PP r6_Format_c40 (seqK PP r6_Format_c70 K) env H := aw_seq r6_Format_c40 r6_Format_c70
def r6_Format_c72 : AC := .reg [⟨some 105, none, .mov (.t 3)⟩, ⟨some 2, none, .mov (.t 105)⟩] [1, 3, 6, 64, 105]
@[simp] theorem r6_Format_c72_eq : aw PP r6_Format_c72 K env H = awOps PP [⟨some 105, none, .mov (.t 3)⟩, ⟨some 2, none, .mov (.t 105)⟩] (regK K [1, 3, 6, 64, 105]) (panK K) env H := aw_reg _ _
def r6_Format_c73 : AC := .seq r6_Format_c72 .ret
@[simp] theorem r6_Format_c73_eq : aw PP r6_Format_c73 K env H = aw PP r6_Format_c72 (seqK PP .ret K) env H := aw_seq r6_Format_c72 .ret
def r6_Format_c74 : AC := .seq r6_Format_c71 r6_Format_c73
@[simp] theorem r6_Format_c74_eq : aw PP r6_Format_c74 K env H = aw PP r6_Format_c71 (seqK PP r6_Format_c73 K) env H := aw_seq r6_Format_c71 r6_Format_c73
def r6_Format_c75 : AC := .seq r6_Format_c39 r6_Format_c74
@[simp] theorem r6_Format_c75_eq : aw PP r6_Format_c75 K env H = aw PP r6_Format_c39 (seqK PP r6_Format_c74 K) env H := aw_seq r6_Format_c39 r6_Format_c74
def r6_Format_c76 : AC := .seq r6_Format_c1 r6_Format_c75
@[simp] theorem r6_Format_c76_eq : aw PP r6_Format_c76 K env H = aw PP r6_Format_c1 (seqK PP r6_Format_c75 K) env H := aw_seq r6_Format_c1 r6_Format_c75
def r6_Format_c77 : AC := .seq r6_Format_c0 r6_Format_c76
@[simp] theorem r6_Format_c77_eq : aw PP r6_Format_c77 K env H = aw PP r6_Format_c0 (seqK PP r6_Format_c76 K) env H := aw_seq r6_Format_c0 r6_Format_c76
def r6_Format_ac : AC := r6_Format_c77
@[simp] theorem r6_Format_ac_eq : aw PP r6_Format_ac K env H = aw PP r6_Format_c77 K env H := Eq.trans rfl rfl
def r6_Format_rs : List ARV := [.tmp 2]
abbrev r6_Format_id : Nat := 18
theorem r6_Format_comp : compF PP r6_Format_kl r6_Format_ow 1 Tryd.f18 = some (r6_Format_ac, r6_Format_rs) := by kernel_rfl
theorem r6_Format_enter {args : List AV} {H : AHeap} {post : ARes → AHeap → Prop} (ha : args.length = 1) (h : aw PP r6_Format_ac (retK r6_Format_rs post) (argEnv 0 args) H) : ACalls PP r6_Format_id args H post := .enterF Tryd.func18 PP_mix r6_Format_comp ha h

end Go.Av
