/- Functions of the given program, compiled to the own form by program. -/
import Derived.Test.YtondhmpdmbjmdaaDoorFns66
set_option linter.unusedVariables false
set_option linter.unusedSimpArgs false
namespace Go.Av
open Go Go.Proofs
variable {K : AK} {env : Env} {H : AHeap}
/-! emendate.emendateref16.sameLevels -/
def r6_sL_kl : Nat → List Nat
  | 0 => [4]
  | 1 => [7, 8, 9, 10]
  | 2 => [0, 1, 11]
  | 3 => [11]
  | 4 => [12, 13, 14]
  | 5 => [6, 16, 17, 51]
  | 6 => [15, 18, 19, 20, 21, 22, 23, 24, 25, 26, 27, 28, 29, 30, 31, 32, 33, 34, 35, 36, 37, 38, 39, 40, 41, 42]
  | 7 => [0, 1, 5, 43]
  | 8 => [43]
  | 9 => [44, 45, 46, 47, 48, 49, 50]
  | 10 => [52, 53, 70]
  | 11 => [51, 54, 55, 56, 57, 58, 59, 60, 61, 62, 63, 64, 65, 66, 67, 68, 69]
  | 12 => [0, 1, 5, 6, 70]
  | 13 => [0, 1, 5, 15]
  | _ => []
def r6_sL_ow : Nat → Nat → Bool := fun _ _ => false
def r6_sL_c0 : AC := .reg [⟨some 4, none, .mov (.c (.bool false))⟩] [4]
@[simp] theorem r6_sL_c0_eq : aw PP r6_sL_c0 K env H = awOps PP [⟨some 4, none, .mov (.c (.bool false))⟩] (regK K [4]) (panK K) env H := aw_reg _ _
def r6_sL_c1 : AC := .reg [⟨some 7, none, .mov (.t 0)⟩, ⟨some 8, none, .lenl (.t 7)⟩, ⟨some 9, none, .mov (.t 1)⟩, ⟨some 10, none, .lenl (.t 9)⟩, ⟨some 11, none, .bin (.neq) (.t 8) (.t 10)⟩] [7, 8, 9, 10]
@[simp] theorem r6_sL_c1_eq : aw PP r6_sL_c1 K env H = awOps PP [⟨some 7, none, .mov (.t 0)⟩, ⟨some 8, none, .lenl (.t 7)⟩, ⟨some 9, none, .mov (.t 1)⟩, ⟨some 10, none, .lenl (.t 9)⟩, ⟨some 11, none, .bin (.neq) (.t 8) (.t 10)⟩] (regK K [7, 8, 9, 10]) (panK K) env H := aw_reg _ _
def r6_sL_c2 : AC := .reg [⟨some 4, none, .mov (.c (.bool false))⟩] [0, 1, 11]
@[simp] theorem r6_sL_c2_eq : aw PP r6_sL_c2 K env H = awOps PP [⟨some 4, none, .mov (.c (.bool false))⟩] (regK K [0, 1, 11]) (panK K) env H := aw_reg _ _
def r6_sL_c3 : AC := .seq r6_sL_c2 .ret
@[simp] theorem r6_sL_c3_eq : aw PP r6_sL_c3 K env H = aw PP r6_sL_c2 (seqK PP .ret K) env H := aw_seq r6_sL_c2 .ret
def r6_sL_c4 : AC := .cond (.t 11) r6_sL_c3 .skip
@[simp] theorem r6_sL_c4_eq : aw PP r6_sL_c4 K env H = condQ PP (Opd.ev env (.t 11)) r6_sL_c3 .skip K env H := aw_cond _ r6_sL_c3 .skip
def r6_sL_c5 : AC := .seq r6_sL_c1 r6_sL_c4
@[simp] theorem r6_sL_c5_eq : aw PP r6_sL_c5 K env H = aw PP r6_sL_c1 (seqK PP r6_sL_c4 K) env H := aw_seq r6_sL_c1 r6_sL_c4
def r6_sL_c6 : AC := .reg [⟨some 5, none, .mov (.c (.int (.i64) 0))⟩] [11]
@[simp] theorem r6_sL_c6_eq : aw PP r6_sL_c6 K env H = awOps PP [⟨some 5, none, .mov (.c (.int (.i64) 0))⟩] (regK K [11]) (panK K) env H := aw_reg _ _
def r6_sL_c7 : AC := .reg [⟨some 12, none, .mov (.t 5)⟩, ⟨some 13, none, .mov (.t 0)⟩, ⟨some 14, none, .lenl (.t 13)⟩, ⟨some 15, none, .bin (.lss) (.t 12) (.t 14)⟩] [12, 13, 14]
@[simp] theorem r6_sL_c7_eq : aw PP r6_sL_c7 K env H = awOps PP [⟨some 12, none, .mov (.t 5)⟩, ⟨some 13, none, .mov (.t 0)⟩, ⟨some 14, none, .lenl (.t 13)⟩, ⟨some 15, none, .bin (.lss) (.t 12) (.t 14)⟩] (regK K [12, 13, 14]) (panK K) env H := aw_reg _ _
def r6_sL_c8 : AC := .cond (.t 15) .skip (.exit 0)
@[simp] theorem r6_sL_c8_eq : aw PP r6_sL_c8 K env H = condQ PP (Opd.ev env (.t 15)) .skip (.exit 0) K env H := aw_cond _ .skip (.exit 0)
def r6_sL_c9 : AC := .seq r6_sL_c7 r6_sL_c8
@[simp] theorem r6_sL_c9_eq : aw PP r6_sL_c9 K env H = aw PP r6_sL_c7 (seqK PP r6_sL_c8 K) env H := aw_seq r6_sL_c7 r6_sL_c8
def r6_sL_c10_ops : List (AI × List Nat) := [(⟨some 18, none, .mov (.t 0)⟩, []), (⟨some 19, none, .mov (.t 5)⟩, []), (⟨some 20, none, .ixa 2 (.t 18) (.t 19)⟩, [0, 1]), (⟨some 21, none, .fa 0 0 (.t 20)⟩, [2]), (⟨some 22, none, .ld false 1 (.t 21)⟩, [3]), (⟨some 23, none, .mov (.t 1)⟩, []), (⟨some 24, none, .mov (.t 5)⟩, []), (⟨some 25, none, .ixa 2 (.t 23) (.t 24)⟩, [5, 6]), (⟨some 26, none, .fa 0 0 (.t 25)⟩, [7]), (⟨some 27, none, .ld false 1 (.t 26)⟩, [8]), (⟨some 28, none, .bin (.neq) (.t 22) (.t 27)⟩, [4, 9]), (⟨some 29, none, .mov (.t 28)⟩, [10]), (⟨some 30, some (29, false), .mov (.t 0)⟩, [11]), (⟨some 31, some (29, false), .mov (.t 5)⟩, [11]), (⟨some 32, some (29, false), .ixa 2 (.t 30) (.t 31)⟩, [12, 13, 11]), (⟨some 33, some (29, false), .fa 1 1 (.t 32)⟩, [14, 11]), (⟨some 34, some (29, false), .ld false 1 (.t 33)⟩, [15, 11]), (⟨some 35, some (29, false), .lenl (.t 34)⟩, [16, 11]), (⟨some 36, some (29, false), .mov (.t 1)⟩, [11]), (⟨some 37, some (29, false), .mov (.t 5)⟩, [11]), (⟨some 38, some (29, false), .ixa 2 (.t 36) (.t 37)⟩, [18, 19, 11]), (⟨some 39, some (29, false), .fa 1 1 (.t 38)⟩, [20, 11]), (⟨some 40, some (29, false), .ld false 1 (.t 39)⟩, [21, 11]), (⟨some 41, some (29, false), .lenl (.t 40)⟩, [22, 11]), (⟨some 42, some (29, false), .bin (.neq) (.t 35) (.t 41)⟩, [17, 23, 11]), (⟨some 43, none, .pick (.t 29) (.c (.bool true)) (.t 42)⟩, [11, 24])]
def r6_sL_c10 : AC := .dreg r6_sL_c10_ops [15, 18, 19, 20, 21, 22, 23, 24, 25, 26, 27, 28, 29, 30, 31, 32, 33, 34, 35, 36, 37, 38, 39, 40, 41, 42]
theorem r6_sL_c10_ok : lexOK r6_sL_c10_ops (fun i => [].contains i) = true := by kernel_rfl
theorem r6_sL_c10_lex (h : awLex PP (fun i => [].contains i) (regK K [15, 18, 19, 20, 21, 22, 23, 24, 25, 26, 27, 28, 29, 30, 31, 32, 33, 34, 35, 36, 37, 38, 39, 40, 41, 42]) (panK K) [(0, ⟨some 18, none, .mov (.t 0)⟩), (1, ⟨some 19, none, .mov (.t 5)⟩), (2, ⟨some 20, none, .ixa 2 (.t 18) (.t 19)⟩), (3, ⟨some 21, none, .fa 0 0 (.t 20)⟩), (4, ⟨some 22, none, .ld false 1 (.t 21)⟩), (5, ⟨some 23, none, .mov (.t 1)⟩), (6, ⟨some 24, none, .mov (.t 5)⟩), (7, ⟨some 25, none, .ixa 2 (.t 23) (.t 24)⟩), (8, ⟨some 26, none, .fa 0 0 (.t 25)⟩), (9, ⟨some 27, none, .ld false 1 (.t 26)⟩), (10, ⟨some 28, none, .bin (.neq) (.t 22) (.t 27)⟩), (11, ⟨some 29, none, .mov (.t 28)⟩), (12, ⟨some 30, some (29, false), .mov (.t 0)⟩), (13, ⟨some 31, some (29, false), .mov (.t 5)⟩), (14, ⟨some 32, some (29, false), .ixa 2 (.t 30) (.t 31)⟩), (15, ⟨some 33, some (29, false), .fa 1 1 (.t 32)⟩), (16, ⟨some 34, some (29, false), .ld false 1 (.t 33)⟩), (17, ⟨some 35, some (29, false), .lenl (.t 34)⟩), (18, ⟨some 36, some (29, false), .mov (.t 1)⟩), (19, ⟨some 37, some (29, false), .mov (.t 5)⟩), (20, ⟨some 38, some (29, false), .ixa 2 (.t 36) (.t 37)⟩), (21, ⟨some 39, some (29, false), .fa 1 1 (.t 38)⟩), (22, ⟨some 40, some (29, false), .ld false 1 (.t 39)⟩), (23, ⟨some 41, some (29, false), .lenl (.t 40)⟩), (24, ⟨some 42, some (29, false), .bin (.neq) (.t 35) (.t 41)⟩), (25, ⟨some 43, none, .pick (.t 29) (.c (.bool true)) (.t 42)⟩)] env H) : aw PP r6_sL_c10 K env H := aw_dreg_lex _ r6_sL_c10_ok h
def r6_sL_c11 : AC := .reg [⟨some 4, none, .mov (.c (.bool false))⟩] [0, 1, 5, 43]
@[simp] theorem r6_sL_c11_eq : aw PP r6_sL_c11 K env H = awOps PP [⟨some 4, none, .mov (.c (.bool false))⟩] (regK K [0, 1, 5, 43]) (panK K) env H := aw_reg _ _
def r6_sL_c12 : AC := .seq r6_sL_c11 .ret
@[simp] theorem r6_sL_c12_eq : aw PP r6_sL_c12 K env H = aw PP r6_sL_c11 (seqK PP .ret K) env H := aw_seq r6_sL_c11 .ret
def r6_sL_c13 : AC := .cond (.t 43) r6_sL_c12 .skip
@[simp] theorem r6_sL_c13_eq : aw PP r6_sL_c13 K env H = condQ PP (Opd.ev env (.t 43)) r6_sL_c12 .skip K env H := aw_cond _ r6_sL_c12 .skip
def r6_sL_c14 : AC := .seq r6_sL_c10 r6_sL_c13
@[simp] theorem r6_sL_c14_eq : aw PP r6_sL_c14 K env H = aw PP r6_sL_c10 (seqK PP r6_sL_c13 K) env H := aw_seq r6_sL_c10 r6_sL_c13
def r6_sL_c15 : AC := .reg [⟨some 6, none, .mov (.c (.int (.i64) 0))⟩] [43]
@[simp] theorem r6_sL_c15_eq : aw PP r6_sL_c15 K env H = awOps PP [⟨some 6, none, .mov (.c (.int (.i64) 0))⟩] (regK K [43]) (panK K) env H := aw_reg _ _
def r6_sL_c16 : AC := .reg [⟨some 44, none, .mov (.t 6)⟩, ⟨some 45, none, .mov (.t 0)⟩, ⟨some 46, none, .mov (.t 5)⟩, ⟨some 47, none, .ixa 2 (.t 45) (.t 46)⟩, ⟨some 48, none, .fa 1 1 (.t 47)⟩, ⟨some 49, none, .ld false 1 (.t 48)⟩, ⟨some 50, none, .lenl (.t 49)⟩, ⟨some 51, none, .bin (.lss) (.t 44) (.t 50)⟩] [44, 45, 46, 47, 48, 49, 50]
@[simp] theorem r6_sL_c16_eq : aw PP r6_sL_c16 K env H = awOps PP [⟨some 44, none, .mov (.t 6)⟩, ⟨some 45, none, .mov (.t 0)⟩, ⟨some 46, none, .mov (.t 5)⟩, ⟨some 47, none, .ixa 2 (.t 45) (.t 46)⟩, ⟨some 48, none, .fa 1 1 (.t 47)⟩, ⟨some 49, none, .ld false 1 (.t 48)⟩, ⟨some 50, none, .lenl (.t 49)⟩, ⟨some 51, none, .bin (.lss) (.t 44) (.t 50)⟩] (regK K [44, 45, 46, 47, 48, 49, 50]) (panK K) env H := aw_reg _ _
def r6_sL_c17 : AC := .cond (.t 51) .skip (.exit 2)
@[simp] theorem r6_sL_c17_eq : aw PP r6_sL_c17 K env H = condQ PP (Opd.ev env (.t 51)) .skip (.exit 2) K env H := aw_cond _ .skip (.exit 2)
def r6_sL_c18 : AC := .seq r6_sL_c16 r6_sL_c17
@[simp] theorem r6_sL_c18_eq : aw PP r6_sL_c18 K env H = aw PP r6_sL_c16 (seqK PP r6_sL_c17 K) env H := aw_seq r6_sL_c16 r6_sL_c17
def r6_sL_c19_ops : List (AI × List Nat) := [(⟨some 54, none, .mov (.t 0)⟩, []), (⟨some 55, none, .mov (.t 5)⟩, []), (⟨some 56, none, .ixa 2 (.t 54) (.t 55)⟩, [0, 1]), (⟨some 57, none, .fa 1 1 (.t 56)⟩, [2]), (⟨some 58, none, .ld false 1 (.t 57)⟩, [3]), (⟨some 59, none, .mov (.t 6)⟩, []), (⟨some 60, none, .ixa 1 (.t 58) (.t 59)⟩, [4, 5]), (⟨some 61, none, .ld false 1 (.t 60)⟩, [6]), (⟨some 62, none, .mov (.t 1)⟩, []), (⟨some 63, none, .mov (.t 5)⟩, []), (⟨some 64, none, .ixa 2 (.t 62) (.t 63)⟩, [8, 9]), (⟨some 65, none, .fa 1 1 (.t 64)⟩, [10]), (⟨some 66, none, .ld false 1 (.t 65)⟩, [11]), (⟨some 67, none, .mov (.t 6)⟩, []), (⟨some 68, none, .ixa 1 (.t 66) (.t 67)⟩, [12, 13]), (⟨some 69, none, .ld false 1 (.t 68)⟩, [14]), (⟨some 70, none, .bin (.neq) (.t 61) (.t 69)⟩, [7, 15])]
def r6_sL_c19 : AC := .dreg r6_sL_c19_ops [51, 54, 55, 56, 57, 58, 59, 60, 61, 62, 63, 64, 65, 66, 67, 68, 69]
theorem r6_sL_c19_ok : lexOK r6_sL_c19_ops (fun i => [].contains i) = true := by kernel_rfl
theorem r6_sL_c19_lex (h : awLex PP (fun i => [].contains i) (regK K [51, 54, 55, 56, 57, 58, 59, 60, 61, 62, 63, 64, 65, 66, 67, 68, 69]) (panK K) [(0, ⟨some 54, none, .mov (.t 0)⟩), (1, ⟨some 55, none, .mov (.t 5)⟩), (2, ⟨some 56, none, .ixa 2 (.t 54) (.t 55)⟩), (3, ⟨some 57, none, .fa 1 1 (.t 56)⟩), (4, ⟨some 58, none, .ld false 1 (.t 57)⟩), (5, ⟨some 59, none, .mov (.t 6)⟩), (6, ⟨some 60, none, .ixa 1 (.t 58) (.t 59)⟩), (7, ⟨some 61, none, .ld false 1 (.t 60)⟩), (8, ⟨some 62, none, .mov (.t 1)⟩), (9, ⟨some 63, none, .mov (.t 5)⟩), (10, ⟨some 64, none, .ixa 2 (.t 62) (.t 63)⟩), (11, ⟨some 65, none, .fa 1 1 (.t 64)⟩), (12, ⟨some 66, none, .ld false 1 (.t 65)⟩), (13, ⟨some 67, none, .mov (.t 6)⟩), (14, ⟨some 68, none, .ixa 1 (.t 66) (.t 67)⟩), (15, ⟨some 69, none, .ld false 1 (.t 68)⟩), (16, ⟨some 70, none, .bin (.neq) (.t 61) (.t 69)⟩)] env H) : aw PP r6_sL_c19 K env H := aw_dreg_lex _ r6_sL_c19_ok h
def r6_sL_c20 : AC := .reg [⟨some 4, none, .mov (.c (.bool false))⟩] [0, 1, 5, 6, 70]
@[simp] theorem r6_sL_c20_eq : aw PP r6_sL_c20 K env H = awOps PP [⟨some 4, none, .mov (.c (.bool false))⟩] (regK K [0, 1, 5, 6, 70]) (panK K) env H := aw_reg _ _
def r6_sL_c21 : AC := .seq r6_sL_c20 .ret
@[simp] theorem r6_sL_c21_eq : aw PP r6_sL_c21 K env H = aw PP r6_sL_c20 (seqK PP .ret K) env H := aw_seq r6_sL_c20 .ret
def r6_sL_c22 : AC := .cond (.t 70) r6_sL_c21 .skip
@[simp] theorem r6_sL_c22_eq : aw PP r6_sL_c22 K env H = condQ PP (Opd.ev env (.t 70)) r6_sL_c21 .skip K env H := aw_cond _ r6_sL_c21 .skip
def r6_sL_c23 : AC := .seq r6_sL_c19 r6_sL_c22
@[simp] theorem r6_sL_c23_eq : aw PP r6_sL_c23 K env H = aw PP r6_sL_c19 (seqK PP r6_sL_c22 K) env H := aw_seq r6_sL_c19 r6_sL_c22
def r6_sL_c24 : AC := .block 3 r6_sL_c23
@[simp] theorem r6_sL_c24_eq : aw PP r6_sL_c24 K env H = aw PP r6_sL_c23 (blockK 3 K) env H := aw_block _ r6_sL_c23
def r6_sL_c25 : AC := .reg [⟨some 52, none, .mov (.t 6)⟩, ⟨some 53, none, .bin (.add) (.t 52) (.c (.int (.i64) 1))⟩, ⟨some 6, none, .mov (.t 53)⟩] [52, 53, 70]
@[simp] theorem r6_sL_c25_eq : aw PP r6_sL_c25 K env H = awOps PP [⟨some 52, none, .mov (.t 6)⟩, ⟨some 53, none, .bin (.add) (.t 52) (.c (.int (.i64) 1))⟩, ⟨some 6, none, .mov (.t 53)⟩] (regK K [52, 53, 70]) (panK K) env H := aw_reg _ _
def r6_sL_c26 : AC := .seq r6_sL_c24 r6_sL_c25
@[simp] theorem r6_sL_c26_eq : aw PP r6_sL_c26 K env H = aw PP r6_sL_c24 (seqK PP r6_sL_c25 K) env H := aw_seq r6_sL_c24 r6_sL_c25
def r6_sL_c27 : AC := .seq r6_sL_c18 r6_sL_c26
@[simp] theorem r6_sL_c27_eq : aw PP r6_sL_c27 K env H = aw PP r6_sL_c18 (seqK PP r6_sL_c26 K) env H := aw_seq r6_sL_c18 r6_sL_c26
def r6_sL_c28 : AC := .loop r6_sL_c27
def r6_sL_c29 : AC := .block 2 r6_sL_c28
@[simp] theorem r6_sL_c29_eq : aw PP r6_sL_c29 K env H = aw PP r6_sL_c28 (blockK 2 K) env H := aw_block _ r6_sL_c28
def r6_sL_c30 : AC := .seq r6_sL_c15 r6_sL_c29
@[simp] theorem r6_sL_c30_eq : aw PP r6_sL_c30 K env H = aw PP r6_sL_c15 (seqK PP r6_sL_c29 K) env H := aw_seq r6_sL_c15 r6_sL_c29
def r6_sL_c31 : AC := .seq r6_sL_c14 r6_sL_c30
@[simp] theorem r6_sL_c31_eq : aw PP r6_sL_c31 K env H = aw PP r6_sL_c14 (seqK PP r6_sL_c30 K) env H := aw_seq r6_sL_c14 r6_sL_c30
def r6_sL_c32 : AC := .block 1 r6_sL_c31
@[simp] theorem r6_sL_c32_eq : aw PP r6_sL_c32 K env H = aw PP r6_sL_c31 (blockK 1 K) env H := aw_block _ r6_sL_c31
def r6_sL_c33 : AC := .reg [⟨some 16, none, .mov (.t 5)⟩, ⟨some 17, none, .bin (.add) (.t 16) (.c (.int (.i64) 1))⟩, ⟨some 5, none, .mov (.t 17)⟩] [6, 16, 17, 51]
@[simp] theorem r6_sL_c33_eq : aw PP r6_sL_c33 K env H = awOps PP [⟨some 16, none, .mov (.t 5)⟩, ⟨some 17, none, .bin (.add) (.t 16) (.c (.int (.i64) 1))⟩, ⟨some 5, none, .mov (.t 17)⟩] (regK K [6, 16, 17, 51]) (panK K) env H := aw_reg _ _
def r6_sL_c34 : AC := .seq r6_sL_c32 r6_sL_c33
@[simp] theorem r6_sL_c34_eq : aw PP r6_sL_c34 K env H = aw PP r6_sL_c32 (seqK PP r6_sL_c33 K) env H := aw_seq r6_sL_c32 r6_sL_c33
def r6_sL_c35 : AC := .seq r6_sL_c9 r6_sL_c34
@[simp] theorem r6_sL_c35_eq : aw PP r6_sL_c35 K env H = aw PP r6_sL_c9 (seqK PP r6_sL_c34 K) env H := aw_seq r6_sL_c9 r6_sL_c34
def r6_sL_c36 : AC := .loop r6_sL_c35
def r6_sL_c37 : AC := .block 0 r6_sL_c36
@[simp] theorem r6_sL_c37_eq : aw PP r6_sL_c37 K env H = aw PP r6_sL_c36 (blockK 0 K) env H := aw_block _ r6_sL_c36
def r6_sL_c38 : AC := .seq r6_sL_c6 r6_sL_c37
@[simp] theorem r6_sL_c38_eq : aw PP r6_sL_c38 K env H = aw PP r6_sL_c6 (seqK PP r6_sL_c37 K) env H := aw_seq r6_sL_c6 r6_sL_c37
def r6_sL_c39 : AC := .reg [⟨some 4, none, .mov (.c (.bool true))⟩] [0, 1, 5, 15]
@[simp] theorem r6_sL_c39_eq : aw PP r6_sL_c39 K env H = awOps PP [⟨some 4, none, .mov (.c (.bool true))⟩] (regK K [0, 1, 5, 15]) (panK K) env H := aw_reg _ _
def r6_sL_c40 : AC := .seq r6_sL_c39 .ret
@[simp] theorem r6_sL_c40_eq : aw PP r6_sL_c40 K env H = aw PP r6_sL_c39 (seqK PP .ret K) env H := aw_seq r6_sL_c39 .ret
def r6_sL_c41 : AC := .seq r6_sL_c38 r6_sL_c40
@[simp] theorem r6_sL_c41_eq : aw PP r6_sL_c41 K env H = aw PP r6_sL_c38 (seqK PP r6_sL_c40 K) env H := aw_seq r6_sL_c38 r6_sL_c40
def r6_sL_c42 : AC := .seq r6_sL_c5 r6_sL_c41
@[simp] theorem r6_sL_c42_eq : aw PP r6_sL_c42 K env H = aw PP r6_sL_c5 (seqK PP r6_sL_c41 K) env H := aw_seq r6_sL_c5 r6_sL_c41
def r6_sL_c43 : AC := .seq r6_sL_c0 r6_sL_c42
@[simp] theorem r6_sL_c43_eq : aw PP r6_sL_c43 K env H = aw PP r6_sL_c0 (seqK PP r6_sL_c42 K) env H := aw_seq r6_sL_c0 r6_sL_c42
def r6_sL_ac : AC := r6_sL_c43
@[simp] theorem r6_sL_ac_eq : aw PP r6_sL_ac K env H = aw PP r6_sL_c43 K env H := Eq.trans rfl rfl
def r6_sL_rs : List ARV := [.tmp 4]
abbrev r6_sL_id : Nat := 38
theorem r6_sL_comp : compF PP r6_sL_kl r6_sL_ow 2 Tryd.f38 = some (r6_sL_ac, r6_sL_rs) := by kernel_rfl
theorem r6_sL_enter {args : List AV} {H : AHeap} {post : ARes → AHeap → Prop} (ha : args.length = 2) (h : aw PP r6_sL_ac (retK r6_sL_rs post) (argEnv 0 args) H) : ACalls PP r6_sL_id args H post := .enterF Tryd.func38 PP_mix r6_sL_comp ha h

/-! emendate.emendateref16.EqualExpr -/
def r6_EE_kl : Nat → List Nat
  | 0 => [0, 1, 4]
  | 1 => [6, 7, 8, 9, 10, 11, 12, 13, 14, 15, 16, 17, 18, 19, 20, 21, 22, 23, 24, 25]
  | 2 => [2, 3, 26]
  | 3 => [26]
  | 4 => [27, 28, 29, 30]
  | 5 => [32, 33, 45]
  | 6 => [31, 34, 35, 36, 37, 38, 39, 40, 41, 42, 43, 44]
  | 7 => [2, 3, 5, 45]
  | 8 => [2, 3, 5, 31]
  | _ => []
def r6_EE_ow : Nat → Nat → Bool := fun _ _ => false
def r6_EE_c0 : AC := .reg [⟨some 2, none, .box (.t 0) 3 33⟩, ⟨some 3, none, .box (.t 1) 3 33⟩, ⟨some 4, none, .mov (.c (.bool false))⟩] [0, 1, 4]
@[simp] theorem r6_EE_c0_eq : aw PP r6_EE_c0 K env H = awOps PP [⟨some 2, none, .box (.t 0) 3 33⟩, ⟨some 3, none, .box (.t 1) 3 33⟩, ⟨some 4, none, .mov (.c (.bool false))⟩] (regK K [0, 1, 4]) (panK K) env H := aw_reg _ _
def r6_EE_c1 : AC := .reg [⟨some 6, none, .fa 0 0 (.t 2)⟩, ⟨some 7, none, .ld false 1 (.t 6)⟩, ⟨some 8, none, .fa 0 0 (.t 3)⟩, ⟨some 9, none, .ld false 1 (.t 8)⟩, ⟨some 10, none, .bin (.neq) (.t 7) (.t 9)⟩, ⟨some 11, none, .mov (.t 10)⟩, ⟨some 12, some (11, false), .fa 1 1 (.t 2)⟩, ⟨some 13, some (11, false), .ld false 1 (.t 12)⟩, ⟨some 14, some (11, false), .fa 1 1 (.t 3)⟩, ⟨some 15, some (11, false), .ld false 1 (.t 14)⟩, ⟨some 16, some (11, false), .bin (.neq) (.t 13) (.t 15)⟩, ⟨some 17, none, .pick (.t 11) (.c (.bool true)) (.t 16)⟩, ⟨some 18, none, .mov (.t 17)⟩, ⟨some 19, some (18, false), .fa 2 2 (.t 2)⟩, ⟨some 20, some (18, false), .ld false 1 (.t 19)⟩, ⟨some 21, some (18, false), .lenl (.t 20)⟩, ⟨some 22, some (18, false), .fa 2 2 (.t 3)⟩, ⟨some 23, some (18, false), .ld false 1 (.t 22)⟩, ⟨some 24, some (18, false), .lenl (.t 23)⟩, ⟨some 25, some (18, false), .bin (.neq) (.t 21) (.t 24)⟩, ⟨some 26, none, .pick (.t 18) (.c (.bool true)) (.t 25)⟩] [6, 7, 8, 9, 10, 11, 12, 13, 14, 15, 16, 17, 18, 19, 20, 21, 22, 23, 24, 25]
@[simp] theorem r6_EE_c1_eq : aw PP r6_EE_c1 K env H = awOps PP [⟨some 6, none, .fa 0 0 (.t 2)⟩, ⟨some 7, none, .ld false 1 (.t 6)⟩, ⟨some 8, none, .fa 0 0 (.t 3)⟩, ⟨some 9, none, .ld false 1 (.t 8)⟩, ⟨some 10, none, .bin (.neq) (.t 7) (.t 9)⟩, ⟨some 11, none, .mov (.t 10)⟩, ⟨some 12, some (11, false), .fa 1 1 (.t 2)⟩, ⟨some 13, some (11, false), .ld false 1 (.t 12)⟩, ⟨some 14, some (11, false), .fa 1 1 (.t 3)⟩, ⟨some 15, some (11, false), .ld false 1 (.t 14)⟩, ⟨some 16, some (11, false), .bin (.neq) (.t 13) (.t 15)⟩, ⟨some 17, none, .pick (.t 11) (.c (.bool true)) (.t 16)⟩, ⟨some 18, none, .mov (.t 17)⟩, ⟨some 19, some (18, false), .fa 2 2 (.t 2)⟩, ⟨some 20, some (18, false), .ld false 1 (.t 19)⟩, ⟨some 21, some (18, false), .lenl (.t 20)⟩, ⟨some 22, some (18, false), .fa 2 2 (.t 3)⟩, ⟨some 23, some (18, false), .ld false 1 (.t 22)⟩, ⟨some 24, some (18, false), .lenl (.t 23)⟩, ⟨some 25, some (18, false), .bin (.neq) (.t 21) (.t 24)⟩, ⟨some 26, none, .pick (.t 18) (.c (.bool true)) (.t 25)⟩] (regK K [6, 7, 8, 9, 10, 11, 12, 13, 14, 15, 16, 17, 18, 19, 20, 21, 22, 23, 24, 25]) (panK K) env H := aw_reg _ _
def r6_EE_c2 : AC := .reg [⟨some 4, none, .mov (.c (.bool false))⟩] [2, 3, 26]
@[simp] theorem r6_EE_c2_eq : aw PP r6_EE_c2 K env H = awOps PP [⟨some 4, none, .mov (.c (.bool false))⟩] (regK K [2, 3, 26]) (panK K) env H := aw_reg _ _
def r6_EE_c3 : AC := .seq r6_EE_c2 .ret
@[simp] theorem r6_EE_c3_eq : aw PP r6_EE_c3 K env H = aw PP r6_EE_c2 (seqK PP .ret K) env H := aw_seq r6_EE_c2 .ret
def r6_EE_c4 : AC := .cond (.t 26) r6_EE_c3 .skip
@[simp] theorem r6_EE_c4_eq : aw PP r6_EE_c4 K env H = condQ PP (Opd.ev env (.t 26)) r6_EE_c3 .skip K env H := aw_cond _ r6_EE_c3 .skip
def r6_EE_c5 : AC := .seq r6_EE_c1 r6_EE_c4
@[simp] theorem r6_EE_c5_eq : aw PP r6_EE_c5 K env H = aw PP r6_EE_c1 (seqK PP r6_EE_c4 K) env H := aw_seq r6_EE_c1 r6_EE_c4
def r6_EE_c6 : AC := .reg [⟨some 5, none, .mov (.c (.int (.i64) 0))⟩] [26]
@[simp] theorem r6_EE_c6_eq : aw PP r6_EE_c6 K env H = awOps PP [⟨some 5, none, .mov (.c (.int (.i64) 0))⟩] (regK K [26]) (panK K) env H := aw_reg _ _
def r6_EE_c7 : AC := .reg [⟨some 27, none, .mov (.t 5)⟩, ⟨some 28, none, .fa 2 2 (.t 2)⟩, ⟨some 29, none, .ld false 1 (.t 28)⟩, ⟨some 30, none, .lenl (.t 29)⟩, ⟨some 31, none, .bin (.lss) (.t 27) (.t 30)⟩] [27, 28, 29, 30]
@[simp] theorem r6_EE_c7_eq : aw PP r6_EE_c7 K env H = awOps PP [⟨some 27, none, .mov (.t 5)⟩, ⟨some 28, none, .fa 2 2 (.t 2)⟩, ⟨some 29, none, .ld false 1 (.t 28)⟩, ⟨some 30, none, .lenl (.t 29)⟩, ⟨some 31, none, .bin (.lss) (.t 27) (.t 30)⟩] (regK K [27, 28, 29, 30]) (panK K) env H := aw_reg _ _
def r6_EE_c8 : AC := .cond (.t 31) .skip (.exit 0)
@[simp] theorem r6_EE_c8_eq : aw PP r6_EE_c8 K env H = condQ PP (Opd.ev env (.t 31)) .skip (.exit 0) K env H := aw_cond _ .skip (.exit 0)
def r6_EE_c9 : AC := .seq r6_EE_c7 r6_EE_c8
@[simp] theorem r6_EE_c9_eq : aw PP r6_EE_c9 K env H = aw PP r6_EE_c7 (seqK PP r6_EE_c8 K) env H := aw_seq r6_EE_c7 r6_EE_c8
def r6_EE_c10_ops : List (AI × List Nat) := [(⟨some 34, none, .fa 2 2 (.t 2)⟩, []), (⟨some 35, none, .ld false 1 (.t 34)⟩, [0]), (⟨some 36, none, .mov (.t 5)⟩, []), (⟨some 37, none, .ixa 3 (.t 35) (.t 36)⟩, [1, 2]), (⟨some 38, none, .ld true 3 (.t 37)⟩, [3]), (⟨some 39, none, .fa 2 2 (.t 3)⟩, []), (⟨some 40, none, .ld false 1 (.t 39)⟩, [5]), (⟨some 41, none, .mov (.t 5)⟩, []), (⟨some 42, none, .ixa 3 (.t 40) (.t 41)⟩, [6, 7]), (⟨some 43, none, .ld true 3 (.t 42)⟩, [8]), (⟨some 44, none, .call (.c (.fn (.func 39) [] [])) [.t 38, .t 43]⟩, [4, 9]), (⟨some 45, none, .not (.t 44)⟩, [10])]
def r6_EE_c10 : AC := .dreg r6_EE_c10_ops [31, 34, 35, 36, 37, 38, 39, 40, 41, 42, 43, 44]
theorem r6_EE_c10_ok : lexOK r6_EE_c10_ops (fun i => [].contains i) = true := by kernel_rfl
theorem r6_EE_c10_lex (h : awLex PP (fun i => [].contains i) (regK K [31, 34, 35, 36, 37, 38, 39, 40, 41, 42, 43, 44]) (panK K) [(0, ⟨some 34, none, .fa 2 2 (.t 2)⟩), (1, ⟨some 35, none, .ld false 1 (.t 34)⟩), (2, ⟨some 36, none, .mov (.t 5)⟩), (3, ⟨some 37, none, .ixa 3 (.t 35) (.t 36)⟩), (4, ⟨some 38, none, .ld true 3 (.t 37)⟩), (5, ⟨some 39, none, .fa 2 2 (.t 3)⟩), (6, ⟨some 40, none, .ld false 1 (.t 39)⟩), (7, ⟨some 41, none, .mov (.t 5)⟩), (8, ⟨some 42, none, .ixa 3 (.t 40) (.t 41)⟩), (9, ⟨some 43, none, .ld true 3 (.t 42)⟩), (10, ⟨some 44, none, .call (.c (.fn (.func 39) [] [])) [.t 38, .t 43]⟩), (11, ⟨some 45, none, .not (.t 44)⟩)] env H) : aw PP r6_EE_c10 K env H := aw_dreg_lex _ r6_EE_c10_ok h
theorem r6_EE_c10_okF : lexOKF r6_EE_c10_ops 10 (fun i => [10].contains i) = true := by kernel_rfl
theorem r6_EE_c10_lexF (B : List Nat) (h : awLexF PP 10 (fun i => [10].contains i) B H (regK K [31, 34, 35, 36, 37, 38, 39, 40, 41, 42, 43, 44]) (panK K) [(0, ⟨some 34, none, .fa 2 2 (.t 2)⟩), (1, ⟨some 35, none, .ld false 1 (.t 34)⟩), (2, ⟨some 36, none, .mov (.t 5)⟩), (3, ⟨some 37, none, .ixa 3 (.t 35) (.t 36)⟩), (4, ⟨some 38, none, .ld true 3 (.t 37)⟩), (5, ⟨some 39, none, .fa 2 2 (.t 3)⟩), (6, ⟨some 40, none, .ld false 1 (.t 39)⟩), (7, ⟨some 41, none, .mov (.t 5)⟩), (8, ⟨some 42, none, .ixa 3 (.t 40) (.t 41)⟩), (9, ⟨some 43, none, .ld true 3 (.t 42)⟩), (10, ⟨some 44, none, .call (.c (.fn (.func 39) [] [])) [.t 38, .t 43]⟩), (11, ⟨some 45, none, .not (.t 44)⟩)] env H) : aw PP r6_EE_c10 K env H := aw_dreg_lexF _ _ B r6_EE_c10_okF h
def r6_EE_c11 : AC := .reg [⟨some 4, none, .mov (.c (.bool false))⟩] [2, 3, 5, 45]
@[simp] theorem r6_EE_c11_eq : aw PP r6_EE_c11 K env H = awOps PP [⟨some 4, none, .mov (.c (.bool false))⟩] (regK K [2, 3, 5, 45]) (panK K) env H := aw_reg _ _
def r6_EE_c12 : AC := .seq r6_EE_c11 .ret
@[simp] theorem r6_EE_c12_eq : aw PP r6_EE_c12 K env H = aw PP r6_EE_c11 (seqK PP .ret K) env H := aw_seq r6_EE_c11 .ret
def r6_EE_c13 : AC := .cond (.t 45) r6_EE_c12 .skip
@[simp] theorem r6_EE_c13_eq : aw PP r6_EE_c13 K env H = condQ PP (Opd.ev env (.t 45)) r6_EE_c12 .skip K env H := aw_cond _ r6_EE_c12 .skip
def r6_EE_c14 : AC := .seq r6_EE_c10 r6_EE_c13
@[simp] theorem r6_EE_c14_eq : aw PP r6_EE_c14 K env H = aw PP r6_EE_c10 (seqK PP r6_EE_c13 K) env H := aw_seq r6_EE_c10 r6_EE_c13
def r6_EE_c15 : AC := .block 1 r6_EE_c14
@[simp] theorem r6_EE_c15_eq : aw PP r6_EE_c15 K env H = aw PP r6_EE_c14 (blockK 1 K) env H := aw_block _ r6_EE_c14
def r6_EE_c16 : AC := .reg [⟨some 32, none, .mov (.t 5)⟩, ⟨some 33, none, .bin (.add) (.t 32) (.c (.int (.i64) 1))⟩, ⟨some 5, none, .mov (.t 33)⟩] [32, 33, 45]
@[simp] theorem r6_EE_c16_eq : aw PP r6_EE_c16 K env H = awOps PP [⟨some 32, none, .mov (.t 5)⟩, ⟨some 33, none, .bin (.add) (.t 32) (.c (.int (.i64) 1))⟩, ⟨some 5, none, .mov (.t 33)⟩] (regK K [32, 33, 45]) (panK K) env H := aw_reg _ _
def r6_EE_c17 : AC := .seq r6_EE_c15 r6_EE_c16
@[simp] theorem r6_EE_c17_eq : aw PP r6_EE_c17 K env H = aw PP r6_EE_c15 (seqK PP r6_EE_c16 K) env H := aw_seq r6_EE_c15 r6_EE_c16
def r6_EE_c18 : AC := .seq r6_EE_c9 r6_EE_c17
@[simp] theorem r6_EE_c18_eq : aw PP r6_EE_c18 K env H = aw PP r6_EE_c9 (seqK PP r6_EE_c17 K) env H := aw_seq r6_EE_c9 r6_EE_c17
def r6_EE_c19 : AC := .loop r6_EE_c18
def r6_EE_c20 : AC := .block 0 r6_EE_c19
@[simp] theorem r6_EE_c20_eq : aw PP r6_EE_c20 K env H = aw PP r6_EE_c19 (blockK 0 K) env H := aw_block _ r6_EE_c19
def r6_EE_c21 : AC := .seq r6_EE_c6 r6_EE_c20
@[simp] theorem r6_EE_c21_eq : aw PP r6_EE_c21 K env H = aw PP r6_EE_c6 (seqK PP r6_EE_c20 K) env H := aw_seq r6_EE_c6 r6_EE_c20
def r6_EE_c22 : AC := .reg [⟨some 4, none, .mov (.c (.bool true))⟩] [2, 3, 5, 31]
@[simp] theorem r6_EE_c22_eq : aw PP r6_EE_c22 K env H = awOps PP [⟨some 4, none, .mov (.c (.bool true))⟩] (regK K [2, 3, 5, 31]) (panK K) env H := aw_reg _ _
def r6_EE_c23 : AC := .seq r6_EE_c22 .ret
@[simp] theorem r6_EE_c23_eq : aw PP r6_EE_c23 K env H = aw PP r6_EE_c22 (seqK PP .ret K) env H := aw_seq r6_EE_c22 .ret
def r6_EE_c24 : AC := .seq r6_EE_c21 r6_EE_c23
@[simp] theorem r6_EE_c24_eq : aw PP r6_EE_c24 K env H = aw PP r6_EE_c21 (seqK PP r6_EE_c23 K) env H := aw_seq r6_EE_c21 r6_EE_c23
def r6_EE_c25 : AC := .seq r6_EE_c5 r6_EE_c24
@[simp] theorem r6_EE_c25_eq : aw PP r6_EE_c25 K env H = aw PP r6_EE_c5 (seqK PP r6_EE_c24 K) env H := aw_seq r6_EE_c5 r6_EE_c24
def r6_EE_c26 : AC := .seq r6_EE_c0 r6_EE_c25
@[simp] theorem r6_EE_c26_eq : aw PP r6_EE_c26 K env H = aw PP r6_EE_c0 (seqK PP r6_EE_c25 K) env H := aw_seq r6_EE_c0 r6_EE_c25
def r6_EE_ac : AC := r6_EE_c26
@[simp] theorem r6_EE_ac_eq : aw PP r6_EE_ac K env H = aw PP r6_EE_c26 K env H := Eq.trans rfl rfl
def r6_EE_rs : List ARV := [.tmp 4]
abbrev r6_EE_id : Nat := 39
theorem r6_EE_comp : compF PP r6_EE_kl r6_EE_ow 2 Tryd.f39 = some (r6_EE_ac, r6_EE_rs) := by kernel_rfl
theorem r6_EE_enter {args : List AV} {H : AHeap} {post : ARes → AHeap → Prop} (ha : args.length = 2) (h : aw PP r6_EE_ac (retK r6_EE_rs post) (argEnv 0 args) H) : ACalls PP r6_EE_id args H post := .enterF Tryd.func39 PP_mix r6_EE_comp ha h

/-! emendate.emendateref16.Equal -/
def r6_Equal_kl : Nat → List Nat
  | 0 => [0, 1, 4]
  | 1 => [9, 10, 11, 12, 13, 14, 15, 16, 17, 18, 19, 20, 21, 22, 23, 24, 25, 26, 27, 28, 29]
  | 2 => [2, 3, 30]
  | 3 => [30]
  | 4 => [31, 32, 33, 34]
  | 5 => [6, 7, 8, 36, 37, 66]
  | 6 => [35, 38, 39, 40, 41, 42, 43, 44, 45, 46, 47]
  | 7 => [48, 49, 50, 51, 52, 53, 54, 55, 56, 57, 58, 59, 60]
  | 8 => [2, 3, 5, 6, 7, 61]
  | 9 => [61]
  | 10 => [62, 63, 64, 65]
  | 11 => [67, 68, 97]
  | 12 => [66, 69, 70, 71, 72, 73, 74, 75, 76, 77, 78, 79, 80, 81, 82, 83, 84, 85, 86, 87, 88, 89, 90, 91, 92, 93, 94, 95, 96]
  | 13 => [2, 3, 5, 6, 7, 8, 97]
  | 14 => [2, 3, 5, 35]
  | _ => []
def r6_Equal_ow : Nat → Nat → Bool := fun _ _ => false
def r6_Equal_c0 : AC := .reg [⟨some 2, none, .box (.t 0) 3 25⟩, ⟨some 3, none, .box (.t 1) 3 25⟩, ⟨some 4, none, .mov (.c (.bool false))⟩] [0, 1, 4]
@[simp] theorem r6_Equal_c0_eq : aw PP r6_Equal_c0 K env H = awOps PP [⟨some 2, none, .box (.t 0) 3 25⟩, ⟨some 3, none, .box (.t 1) 3 25⟩, ⟨some 4, none, .mov (.c (.bool false))⟩] (regK K [0, 1, 4]) (panK K) env H := aw_reg _ _
def r6_Equal_c1 : AC := .reg [⟨some 9, none, .fa 0 0 (.t 2)⟩, ⟨some 10, none, .ld false 1 (.t 9)⟩, ⟨some 11, none, .fa 0 0 (.t 3)⟩, ⟨some 12, none, .ld false 1 (.t 11)⟩, ⟨some 13, none, .bin (.neq) (.t 10) (.t 12)⟩, ⟨some 14, none, .mov (.t 13)⟩, ⟨some 15, some (14, false), .fa 1 1 (.t 2)⟩, ⟨some 16, some (14, false), .ld false 1 (.t 15)⟩, ⟨some 17, some (14, false), .fa 1 1 (.t 3)⟩, ⟨some 18, some (14, false), .ld false 1 (.t 17)⟩, ⟨some 19, some (14, false), .call (.c (.fn (.func 38) [] [])) [.t 16, .t 18]⟩, ⟨some 20, some (14, false), .not (.t 19)⟩, ⟨some 21, none, .pick (.t 14) (.c (.bool true)) (.t 20)⟩, ⟨some 22, none, .mov (.t 21)⟩, ⟨some 23, some (22, false), .fa 2 2 (.t 2)⟩, ⟨some 24, some (22, false), .ld false 1 (.t 23)⟩, ⟨some 25, some (22, false), .lenl (.t 24)⟩, ⟨some 26, some (22, false), .fa 2 2 (.t 3)⟩, ⟨some 27, some (22, false), .ld false 1 (.t 26)⟩, ⟨some 28, some (22, false), .lenl (.t 27)⟩, ⟨some 29, some (22, false), .bin (.neq) (.t 25) (.t 28)⟩, ⟨some 30, none, .pick (.t 22) (.c (.bool true)) (.t 29)⟩] [9, 10, 11, 12, 13, 14, 15, 16, 17, 18, 19, 20, 21, 22, 23, 24, 25, 26, 27, 28, 29]
@[simp] theorem r6_Equal_c1_eq : aw PP r6_Equal_c1 K env H = awOps PP [⟨some 9, none, .fa 0 0 (.t 2)⟩, ⟨some 10, none, .ld false 1 (.t 9)⟩, ⟨some 11, none, .fa 0 0 (.t 3)⟩, ⟨some 12, none, .ld false 1 (.t 11)⟩, ⟨some 13, none, .bin (.neq) (.t 10) (.t 12)⟩, ⟨some 14, none, .mov (.t 13)⟩, ⟨some 15, some (14, false), .fa 1 1 (.t 2)⟩, ⟨some 16, some (14, false), .ld false 1 (.t 15)⟩, ⟨some 17, some (14, false), .fa 1 1 (.t 3)⟩, ⟨some 18, some (14, false), .ld false 1 (.t 17)⟩, ⟨some 19, some (14, false), .call (.c (.fn (.func 38) [] [])) [.t 16, .t 18]⟩, ⟨some 20, some (14, false), .not (.t 19)⟩, ⟨some 21, none, .pick (.t 14) (.c (.bool true)) (.t 20)⟩, ⟨some 22, none, .mov (.t 21)⟩, ⟨some 23, some (22, false), .fa 2 2 (.t 2)⟩, ⟨some 24, some (22, false), .ld false 1 (.t 23)⟩, ⟨some 25, some (22, false), .lenl (.t 24)⟩, ⟨some 26, some (22, false), .fa 2 2 (.t 3)⟩, ⟨some 27, some (22, false), .ld false 1 (.t 26)⟩, ⟨some 28, some (22, false), .lenl (.t 27)⟩, ⟨some 29, some (22, false), .bin (.neq) (.t 25) (.t 28)⟩, ⟨some 30, none, .pick (.t 22) (.c (.bool true)) (.t 29)⟩] (regK K [9, 10, 11, 12, 13, 14, 15, 16, 17, 18, 19, 20, 21, 22, 23, 24, 25, 26, 27, 28, 29]) (panK K) env H := aw_reg _ _
def r6_Equal_c2 : AC := .reg [⟨some 4, none, .mov (.c (.bool false))⟩] [2, 3, 30]
@[simp] theorem r6_Equal_c2_eq : aw PP r6_Equal_c2 K env H = awOps PP [⟨some 4, none, .mov (.c (.bool false))⟩] (regK K [2, 3, 30]) (panK K) env H := aw_reg _ _
def r6_Equal_c3 : AC := .seq r6_Equal_c2 .ret
@[simp] theorem r6_Equal_c3_eq : aw PP r6_Equal_c3 K env H = aw PP r6_Equal_c2 (seqK PP .ret K) env H := aw_seq r6_Equal_c2 .ret
def r6_Equal_c4 : AC := .cond (.t 30) r6_Equal_c3 .skip
@[simp] theorem r6_Equal_c4_eq : aw PP r6_Equal_c4 K env H = condQ PP (Opd.ev env (.t 30)) r6_Equal_c3 .skip K env H := aw_cond _ r6_Equal_c3 .skip
def r6_Equal_c5 : AC := .seq r6_Equal_c1 r6_Equal_c4
@[simp] theorem r6_Equal_c5_eq : aw PP r6_Equal_c5 K env H = aw PP r6_Equal_c1 (seqK PP r6_Equal_c4 K) env H := aw_seq r6_Equal_c1 r6_Equal_c4
def r6_Equal_c6 : AC := .reg [⟨some 5, none, .mov (.c (.int (.i64) 0))⟩] [30]
@[simp] theorem r6_Equal_c6_eq : aw PP r6_Equal_c6 K env H = awOps PP [⟨some 5, none, .mov (.c (.int (.i64) 0))⟩] (regK K [30]) (panK K) env H := aw_reg _ _
def r6_Equal_c7 : AC := .reg [⟨some 31, none, .mov (.t 5)⟩, ⟨some 32, none, .fa 2 2 (.t 2)⟩, ⟨some 33, none, .ld false 1 (.t 32)⟩, ⟨some 34, none, .lenl (.t 33)⟩, ⟨some 35, none, .bin (.lss) (.t 31) (.t 34)⟩] [31, 32, 33, 34]
@[simp] theorem r6_Equal_c7_eq : aw PP r6_Equal_c7 K env H = awOps PP [⟨some 31, none, .mov (.t 5)⟩, ⟨some 32, none, .fa 2 2 (.t 2)⟩, ⟨some 33, none, .ld false 1 (.t 32)⟩, ⟨some 34, none, .lenl (.t 33)⟩, ⟨some 35, none, .bin (.lss) (.t 31) (.t 34)⟩] (regK K [31, 32, 33, 34]) (panK K) env H := aw_reg _ _
def r6_Equal_c8 : AC := .cond (.t 35) .skip (.exit 0)
@[simp] theorem r6_Equal_c8_eq : aw PP r6_Equal_c8 K env H = condQ PP (Opd.ev env (.t 35)) .skip (.exit 0) K env H := aw_cond _ .skip (.exit 0)
def r6_Equal_c9 : AC := .seq r6_Equal_c7 r6_Equal_c8
@[simp] theorem r6_Equal_c9_eq : aw PP r6_Equal_c9 K env H = aw PP r6_Equal_c7 (seqK PP r6_Equal_c8 K) env H := aw_seq r6_Equal_c7 r6_Equal_c8
def r6_Equal_c10_ops : List (AI × List Nat) := [(⟨some 38, none, .fa 2 2 (.t 2)⟩, []), (⟨some 39, none, .ld false 1 (.t 38)⟩, [0]), (⟨some 40, none, .mov (.t 5)⟩, []), (⟨some 41, none, .ixa 2 (.t 39) (.t 40)⟩, [1, 2]), (⟨some 42, none, .ld true 2 (.t 41)⟩, [3]), (⟨some 43, none, .fa 2 2 (.t 3)⟩, []), (⟨some 44, none, .ld false 1 (.t 43)⟩, [5]), (⟨some 45, none, .mov (.t 5)⟩, []), (⟨some 46, none, .ixa 2 (.t 44) (.t 45)⟩, [6, 7]), (⟨some 47, none, .ld true 2 (.t 46)⟩, [8]), (⟨some 6, none, .alloc (.struct [.str [], .nils]) 41⟩, []), (⟨some 7, none, .alloc (.struct [.str [], .nils]) 41⟩, []), (⟨none, none, .st 2 (.t 6) (.t 42)⟩, [10, 4, 0, 1, 2, 3, 4, 10, 11]), (⟨none, none, .st 2 (.t 7) (.t 47)⟩, [11, 9, 12, 0, 1, 2, 3, 4, 5, 6, 7, 8, 9, 10, 11, 12])]
def r6_Equal_c10 : AC := .dreg r6_Equal_c10_ops [35, 38, 39, 40, 41, 42, 43, 44, 45, 46, 47]
theorem r6_Equal_c10_okF : lexOKF r6_Equal_c10_ops 13 (fun i => [10, 11, 12, 13].contains i) = true := by kernel_rfl
theorem r6_Equal_c10_lexF (B : List Nat) (h : awLexF PP 13 (fun i => [10, 11, 12, 13].contains i) B H (regK K [35, 38, 39, 40, 41, 42, 43, 44, 45, 46, 47]) (panK K) [(0, ⟨some 38, none, .fa 2 2 (.t 2)⟩), (1, ⟨some 39, none, .ld false 1 (.t 38)⟩), (2, ⟨some 40, none, .mov (.t 5)⟩), (3, ⟨some 41, none, .ixa 2 (.t 39) (.t 40)⟩), (4, ⟨some 42, none, .ld true 2 (.t 41)⟩), (5, ⟨some 43, none, .fa 2 2 (.t 3)⟩), (6, ⟨some 44, none, .ld false 1 (.t 43)⟩), (7, ⟨some 45, none, .mov (.t 5)⟩), (8, ⟨some 46, none, .ixa 2 (.t 44) (.t 45)⟩), (9, ⟨some 47, none, .ld true 2 (.t 46)⟩), (10, ⟨some 6, none, .alloc (.struct [.str [], .nils]) 41⟩), (11, ⟨some 7, none, .alloc (.struct [.str [], .nils]) 41⟩), (12, ⟨none, none, .st 2 (.t 6) (.t 42)⟩), (13, ⟨none, none, .st 2 (.t 7) (.t 47)⟩)] env H) : aw PP r6_Equal_c10 K env H := aw_dreg_lexF _ _ B r6_Equal_c10_okF h
def r6_Equal_c11 : AC := .reg [⟨some 48, none, .fa 0 0 (.t 6)⟩, ⟨some 49, none, .ld false 1 (.t 48)⟩, ⟨some 50, none, .fa 0 0 (.t 7)⟩, ⟨some 51, none, .ld false 1 (.t 50)⟩, ⟨some 52, none, .bin (.neq) (.t 49) (.t 51)⟩, ⟨some 53, none, .mov (.t 52)⟩, ⟨some 54, some (53, false), .fa 1 1 (.t 6)⟩, ⟨some 55, some (53, false), .ld false 1 (.t 54)⟩, ⟨some 56, some (53, false), .lenl (.t 55)⟩, ⟨some 57, some (53, false), .fa 1 1 (.t 7)⟩, ⟨some 58, some (53, false), .ld false 1 (.t 57)⟩, ⟨some 59, some (53, false), .lenl (.t 58)⟩, ⟨some 60, some (53, false), .bin (.neq) (.t 56) (.t 59)⟩, ⟨some 61, none, .pick (.t 53) (.c (.bool true)) (.t 60)⟩] [48, 49, 50, 51, 52, 53, 54, 55, 56, 57, 58, 59, 60]
@[simp] theorem r6_Equal_c11_eq : aw PP r6_Equal_c11 K env H = awOps PP [⟨some 48, none, .fa 0 0 (.t 6)⟩, ⟨some 49, none, .ld false 1 (.t 48)⟩, ⟨some 50, none, .fa 0 0 (.t 7)⟩, ⟨some 51, none, .ld false 1 (.t 50)⟩, ⟨some 52, none, .bin (.neq) (.t 49) (.t 51)⟩, ⟨some 53, none, .mov (.t 52)⟩, ⟨some 54, some (53, false), .fa 1 1 (.t 6)⟩, ⟨some 55, some (53, false), .ld false 1 (.t 54)⟩, ⟨some 56, some (53, false), .lenl (.t 55)⟩, ⟨some 57, some (53, false), .fa 1 1 (.t 7)⟩, ⟨some 58, some (53, false), .ld false 1 (.t 57)⟩, ⟨some 59, some (53, false), .lenl (.t 58)⟩, ⟨some 60, some (53, false), .bin (.neq) (.t 56) (.t 59)⟩, ⟨some 61, none, .pick (.t 53) (.c (.bool true)) (.t 60)⟩] (regK K [48, 49, 50, 51, 52, 53, 54, 55, 56, 57, 58, 59, 60]) (panK K) env H := aw_reg _ _
def r6_Equal_c12 : AC := .reg [⟨some 4, none, .mov (.c (.bool false))⟩] [2, 3, 5, 6, 7, 61]
@[simp] theorem r6_Equal_c12_eq : aw PP r6_Equal_c12 K env H = awOps PP [⟨some 4, none, .mov (.c (.bool false))⟩] (regK K [2, 3, 5, 6, 7, 61]) (panK K) env H := aw_reg _ _
def r6_Equal_c13 : AC := .seq r6_Equal_c12 .ret
@[simp] theorem r6_Equal_c13_eq : aw PP r6_Equal_c13 K env H = aw PP r6_Equal_c12 (seqK PP .ret K) env H := aw_seq r6_Equal_c12 .ret
def r6_Equal_c14 : AC := .cond (.t 61) r6_Equal_c13 .skip
@[simp] theorem r6_Equal_c14_eq : aw PP r6_Equal_c14 K env H = condQ PP (Opd.ev env (.t 61)) r6_Equal_c13 .skip K env H := aw_cond _ r6_Equal_c13 .skip
def r6_Equal_c15 : AC := .seq r6_Equal_c11 r6_Equal_c14
@[simp] theorem r6_Equal_c15_eq : aw PP r6_Equal_c15 K env H = aw PP r6_Equal_c11 (seqK PP r6_Equal_c14 K) env H := aw_seq r6_Equal_c11 r6_Equal_c14
def r6_Equal_c16 : AC := .reg [⟨some 8, none, .mov (.c (.int (.i64) 0))⟩] [61]
@[simp] theorem r6_Equal_c16_eq : aw PP r6_Equal_c16 K env H = awOps PP [⟨some 8, none, .mov (.c (.int (.i64) 0))⟩] (regK K [61]) (panK K) env H := aw_reg _ _
def r6_Equal_c17 : AC := .reg [⟨some 62, none, .mov (.t 8)⟩, ⟨some 63, none, .fa 1 1 (.t 6)⟩, ⟨some 64, none, .ld false 1 (.t 63)⟩, ⟨some 65, none, .lenl (.t 64)⟩, ⟨some 66, none, .bin (.lss) (.t 62) (.t 65)⟩] [62, 63, 64, 65]
@[simp] theorem r6_Equal_c17_eq : aw PP r6_Equal_c17 K env H = awOps PP [⟨some 62, none, .mov (.t 8)⟩, ⟨some 63, none, .fa 1 1 (.t 6)⟩, ⟨some 64, none, .ld false 1 (.t 63)⟩, ⟨some 65, none, .lenl (.t 64)⟩, ⟨some 66, none, .bin (.lss) (.t 62) (.t 65)⟩] (regK K [62, 63, 64, 65]) (panK K) env H := aw_reg _ _
def r6_Equal_c18 : AC := .cond (.t 66) .skip (.exit 2)
@[simp] theorem r6_Equal_c18_eq : aw PP r6_Equal_c18 K env H = condQ PP (Opd.ev env (.t 66)) .skip (.exit 2) K env H := aw_cond _ .skip (.exit 2)
def r6_Equal_c19 : AC := .seq r6_Equal_c17 r6_Equal_c18
@[simp] theorem r6_Equal_c19_eq : aw PP r6_Equal_c19 K env H = aw PP r6_Equal_c17 (seqK PP r6_Equal_c18 K) env H := aw_seq r6_Equal_c17 r6_Equal_c18
def r6_Equal_c20_ops : List (AI × List Nat) := [(⟨some 69, none, .fa 1 1 (.t 6)⟩, []), (⟨some 70, none, .ld false 1 (.t 69)⟩, [0]), (⟨some 71, none, .mov (.t 8)⟩, []), (⟨some 72, none, .ixa 4 (.t 70) (.t 71)⟩, [1, 2]), (⟨some 73, none, .fa 1 3 (.t 72)⟩, [3]), (⟨some 74, none, .ld false 1 (.t 73)⟩, [4]), (⟨some 75, none, .fa 1 1 (.t 7)⟩, []), (⟨some 76, none, .ld false 1 (.t 75)⟩, [6]), (⟨some 77, none, .mov (.t 8)⟩, []), (⟨some 78, none, .ixa 4 (.t 76) (.t 77)⟩, [7, 8]), (⟨some 79, none, .fa 1 3 (.t 78)⟩, [9]), (⟨some 80, none, .ld false 1 (.t 79)⟩, [10]), (⟨some 81, none, .bin (.neq) (.t 74) (.t 80)⟩, [5, 11]), (⟨some 82, none, .mov (.t 81)⟩, [12]), (⟨some 83, some (82, false), .fa 1 1 (.t 6)⟩, [13]), (⟨some 84, some (82, false), .ld false 1 (.t 83)⟩, [14, 13]), (⟨some 85, some (82, false), .mov (.t 8)⟩, [13]), (⟨some 86, some (82, false), .ixa 4 (.t 84) (.t 85)⟩, [15, 16, 13]), (⟨some 87, some (82, false), .fa 0 0 (.t 86)⟩, [17, 13]), (⟨some 88, some (82, false), .ld true 3 (.t 87)⟩, [18, 13]), (⟨some 89, some (82, false), .fa 1 1 (.t 7)⟩, [13]), (⟨some 90, some (82, false), .ld false 1 (.t 89)⟩, [20, 13]), (⟨some 91, some (82, false), .mov (.t 8)⟩, [13]), (⟨some 92, some (82, false), .ixa 4 (.t 90) (.t 91)⟩, [21, 22, 13]), (⟨some 93, some (82, false), .fa 0 0 (.t 92)⟩, [23, 13]), (⟨some 94, some (82, false), .ld true 3 (.t 93)⟩, [24, 13]), (⟨some 95, some (82, false), .call (.c (.fn (.func 39) [] [])) [.t 88, .t 94]⟩, [19, 25, 13, 13]), (⟨some 96, some (82, false), .not (.t 95)⟩, [26, 13]), (⟨some 97, none, .pick (.t 82) (.c (.bool true)) (.t 96)⟩, [13, 27])]
def r6_Equal_c20 : AC := .dreg r6_Equal_c20_ops [66, 69, 70, 71, 72, 73, 74, 75, 76, 77, 78, 79, 80, 81, 82, 83, 84, 85, 86, 87, 88, 89, 90, 91, 92, 93, 94, 95, 96]
theorem r6_Equal_c20_ok : lexOK r6_Equal_c20_ops (fun i => [].contains i) = true := by kernel_rfl
theorem r6_Equal_c20_lex (h : awLex PP (fun i => [].contains i) (regK K [66, 69, 70, 71, 72, 73, 74, 75, 76, 77, 78, 79, 80, 81, 82, 83, 84, 85, 86, 87, 88, 89, 90, 91, 92, 93, 94, 95, 96]) (panK K) [(0, ⟨some 69, none, .fa 1 1 (.t 6)⟩), (1, ⟨some 70, none, .ld false 1 (.t 69)⟩), (2, ⟨some 71, none, .mov (.t 8)⟩), (3, ⟨some 72, none, .ixa 4 (.t 70) (.t 71)⟩), (4, ⟨some 73, none, .fa 1 3 (.t 72)⟩), (5, ⟨some 74, none, .ld false 1 (.t 73)⟩), (6, ⟨some 75, none, .fa 1 1 (.t 7)⟩), (7, ⟨some 76, none, .ld false 1 (.t 75)⟩), (8, ⟨some 77, none, .mov (.t 8)⟩), (9, ⟨some 78, none, .ixa 4 (.t 76) (.t 77)⟩), (10, ⟨some 79, none, .fa 1 3 (.t 78)⟩), (11, ⟨some 80, none, .ld false 1 (.t 79)⟩), (12, ⟨some 81, none, .bin (.neq) (.t 74) (.t 80)⟩), (13, ⟨some 82, none, .mov (.t 81)⟩), (14, ⟨some 83, some (82, false), .fa 1 1 (.t 6)⟩), (15, ⟨some 84, some (82, false), .ld false 1 (.t 83)⟩), (16, ⟨some 85, some (82, false), .mov (.t 8)⟩), (17, ⟨some 86, some (82, false), .ixa 4 (.t 84) (.t 85)⟩), (18, ⟨some 87, some (82, false), .fa 0 0 (.t 86)⟩), (19, ⟨some 88, some (82, false), .ld true 3 (.t 87)⟩), (20, ⟨some 89, some (82, false), .fa 1 1 (.t 7)⟩), (21, ⟨some 90, some (82, false), .ld false 1 (.t 89)⟩), (22, ⟨some 91, some (82, false), .mov (.t 8)⟩), (23, ⟨some 92, some (82, false), .ixa 4 (.t 90) (.t 91)⟩), (24, ⟨some 93, some (82, false), .fa 0 0 (.t 92)⟩), (25, ⟨some 94, some (82, false), .ld true 3 (.t 93)⟩), (26, ⟨some 95, some (82, false), .call (.c (.fn (.func 39) [] [])) [.t 88, .t 94]⟩), (27, ⟨some 96, some (82, false), .not (.t 95)⟩), (28, ⟨some 97, none, .pick (.t 82) (.c (.bool true)) (.t 96)⟩)] env H) : aw PP r6_Equal_c20 K env H := aw_dreg_lex _ r6_Equal_c20_ok h
theorem r6_Equal_c20_okF : lexOKF r6_Equal_c20_ops 26 (fun i => [26].contains i) = true := by kernel_rfl
theorem r6_Equal_c20_lexF (B : List Nat) (h : awLexF PP 26 (fun i => [26].contains i) B H (regK K [66, 69, 70, 71, 72, 73, 74, 75, 76, 77, 78, 79, 80, 81, 82, 83, 84, 85, 86, 87, 88, 89, 90, 91, 92, 93, 94, 95, 96]) (panK K) [(0, ⟨some 69, none, .fa 1 1 (.t 6)⟩), (1, ⟨some 70, none, .ld false 1 (.t 69)⟩), (2, ⟨some 71, none, .mov (.t 8)⟩), (3, ⟨some 72, none, .ixa 4 (.t 70) (.t 71)⟩), (4, ⟨some 73, none, .fa 1 3 (.t 72)⟩), (5, ⟨some 74, none, .ld false 1 (.t 73)⟩), (6, ⟨some 75, none, .fa 1 1 (.t 7)⟩), (7, ⟨some 76, none, .ld false 1 (.t 75)⟩), (8, ⟨some 77, none, .mov (.t 8)⟩), (9, ⟨some 78, none, .ixa 4 (.t 76) (.t 77)⟩), (10, ⟨some 79, none, .fa 1 3 (.t 78)⟩), (11, ⟨some 80, none, .ld false 1 (.t 79)⟩), (12, ⟨some 81, none, .bin (.neq) (.t 74) (.t 80)⟩), (13, ⟨some 82, none, .mov (.t 81)⟩), (14, ⟨some 83, some (82, false), .fa 1 1 (.t 6)⟩), (15, ⟨some 84, some (82, false), .ld false 1 (.t 83)⟩), (16, ⟨some 85, some (82, false), .mov (.t 8)⟩), (17, ⟨some 86, some (82, false), .ixa 4 (.t 84) (.t 85)⟩), (18, ⟨some 87, some (82, false), .fa 0 0 (.t 86)⟩), (19, ⟨some 88, some (82, false), .ld true 3 (.t 87)⟩), (20, ⟨some 89, some (82, false), .fa 1 1 (.t 7)⟩), (21, ⟨some 90, some (82, false), .ld false 1 (.t 89)⟩), (22, ⟨some 91, some (82, false), .mov (.t 8)⟩), (23, ⟨some 92, some (82, false), .ixa 4 (.t 90) (.t 91)⟩), (24, ⟨some 93, some (82, false), .fa 0 0 (.t 92)⟩), (25, ⟨some 94, some (82, false), .ld true 3 (.t 93)⟩), (26, ⟨some 95, some (82, false), .call (.c (.fn (.func 39) [] [])) [.t 88, .t 94]⟩), (27, ⟨some 96, some (82, false), .not (.t 95)⟩), (28, ⟨some 97, none, .pick (.t 82) (.c (.bool true)) (.t 96)⟩)] env H) : aw PP r6_Equal_c20 K env H := aw_dreg_lexF _ _ B r6_Equal_c20_okF h
def r6_Equal_c21 : AC := .reg [⟨some 4, none, .mov (.c (.bool false))⟩] [2, 3, 5, 6, 7, 8, 97]
@[simp] theorem r6_Equal_c21_eq : aw PP r6_Equal_c21 K env H = awOps PP [⟨some 4, none, .mov (.c (.bool false))⟩] (regK K [2, 3, 5, 6, 7, 8, 97]) (panK K) env H := aw_reg _ _
def r6_Equal_c22 : AC := .seq r6_Equal_c21 .ret
@[simp] theorem r6_Equal_c22_eq : aw PP r6_Equal_c22 K env H = aw PP r6_Equal_c21 (seqK PP .ret K) env H := aw_seq r6_Equal_c21 .ret
def r6_Equal_c23 : AC := .cond (.t 97) r6_Equal_c22 .skip
@[simp] theorem r6_Equal_c23_eq : aw PP r6_Equal_c23 K env H = condQ PP (Opd.ev env (.t 97)) r6_Equal_c22 .skip K env H := aw_cond _ r6_Equal_c22 .skip
def r6_Equal_c24 : AC := .seq r6_Equal_c20 r6_Equal_c23
@[simp] theorem r6_Equal_c24_eq : aw PP r6_Equal_c24 K env H = aw PP r6_Equal_c20 (seqK PP r6_Equal_c23 K) env H := aw_seq r6_Equal_c20 r6_Equal_c23
def r6_Equal_c25 : AC := .block 3 r6_Equal_c24
@[simp] theorem r6_Equal_c25_eq : aw PP r6_Equal_c25 K env H = aw PP r6_Equal_c24 (blockK 3 K) env H := aw_block _ r6_Equal_c24
def r6_Equal_c26 : AC := .reg [⟨some 67, none, .mov (.t 8)⟩, ⟨some 68, none, .bin (.add) (.t 67) (.c (.int (.i64) 1))⟩, ⟨some 8, none, .mov (.t 68)⟩] [67, 68, 97]
@[simp] theorem r6_Equal_c26_eq : aw PP r6_Equal_c26 K env H = awOps PP [⟨some 67, none, .mov (.t 8)⟩, ⟨some 68, none, .bin (.add) (.t 67) (.c (.int (.i64) 1))⟩, ⟨some 8, none, .mov (.t 68)⟩] (regK K [67, 68, 97]) (panK K) env H := aw_reg _ _
def r6_Equal_c27 : AC := .seq r6_Equal_c25 r6_Equal_c26
@[simp] theorem r6_Equal_c27_eq : aw PP r6_Equal_c27 K env H = aw PP r6_Equal_c25 (seqK PP r6_Equal_c26 K) env H := aw_seq r6_Equal_c25 r6_Equal_c26
def r6_Equal_c28 : AC := .seq r6_Equal_c19 r6_Equal_c27
@[simp] theorem r6_Equal_c28_eq : aw PP r6_Equal_c28 K env H = aw PP r6_Equal_c19 (seqK PP r6_Equal_c27 K) env H := aw_seq r6_Equal_c19 r6_Equal_c27
def r6_Equal_c29 : AC := .loop r6_Equal_c28
def r6_Equal_c30 : AC := .block 2 r6_Equal_c29
@[simp] theorem r6_Equal_c30_eq : aw PP r6_Equal_c30 K env H = aw PP r6_Equal_c29 (blockK 2 K) env H := aw_block _ r6_Equal_c29
def r6_Equal_c31 : AC := .seq r6_Equal_c16 r6_Equal_c30
@[simp] theorem r6_Equal_c31_eq : aw PP r6_Equal_c31 K env H = aw PP r6_Equal_c16 (seqK PP r6_Equal_c30 K) env H := aw_seq r6_Equal_c16 r6_Equal_c30
def r6_Equal_c32 : AC := .seq r6_Equal_c15 r6_Equal_c31
@[simp] theorem r6_Equal_c32_eq : aw PP r6_Equal_c32 K env H = aw PP r6_Equal_c15 (seqK PP r6_Equal_c31 K) env H := aw_seq r6_Equal_c15 r6_Equal_c31
def r6_Equal_c33 : AC := .seq r6_Equal_c10 r6_Equal_c32
@[simp] theorem r6_Equal_c33_eq : aw PP r6_Equal_c33 K env H = aw PP r6_Equal_c10 (seqK PP r6_Equal_c32 K) env H := aw_seq r6_Equal_c10 r6_Equal_c32
def r6_Equal_c34 : AC := .block 1 r6_Equal_c33
@[simp] theorem r6_Equal_c34_eq : aw PP r6_Equal_c34 K env H = aw PP r6_Equal_c33 (blockK 1 K) env H := aw_block _ r6_Equal_c33
def r6_Equal_c35 : AC := .reg [⟨some 36, none, .mov (.t 5)⟩, ⟨some 37, none, .bin (.add) (.t 36) (.c (.int (.i64) 1))⟩, ⟨some 5, none, .mov (.t 37)⟩] [6, 7, 8, 36, 37, 66]
@[simp] theorem r6_Equal_c35_eq : aw PP r6_Equal_c35 K env H = awOps PP [⟨some 36, none, .mov (.t 5)⟩, ⟨some 37, none, .bin (.add) (.t 36) (.c (.int (.i64) 1))⟩, ⟨some 5, none, .mov (.t 37)⟩] (regK K [6, 7, 8, 36, 37, 66]) (panK K) env H := aw_reg _ _
def r6_Equal_c36 : AC := .seq r6_Equal_c34 r6_Equal_c35
@[simp] theorem r6_Equal_c36_eq : aw PP r6_Equal_c36 K env H = aw PP r6_Equal_c34 (seqK PP r6_Equal_c35 K) env H := aw_seq r6_Equal_c34 r6_Equal_c35
def r6_Equal_c37 : AC := .seq r6_Equal_c9 r6_Equal_c36
@[simp] theorem r6_Equal_c37_eq : aw PP r6_Equal_c37 K env H = aw PP r6_Equal_c9 (seqK PP r6_Equal_c36 K) env H := aw_seq r6_Equal_c9 r6_Equal_c36
def r6_Equal_c38 : AC := .loop r6_Equal_c37
def r6_Equal_c39 : AC := .block 0 r6_Equal_c38
@[simp] theorem r6_Equal_c39_eq : aw PP r6_Equal_c39 K env H = aw PP r6_Equal_c38 (blockK 0 K) env H := aw_block _ r6_Equal_c38
def r6_Equal_c40 : AC := .seq r6_Equal_c6 r6_Equal_c39
@[simp] theorem r6_Equal_c40_eq : aw PP r6_Equal_c40 K env H = aw PP r6_Equal_c6 (seqK PP r6_Equal_c39 K) env H := aw_seq r6_Equal_c6 r6_Equal_c39
def r6_Equal_c41 : AC := .reg [⟨some 4, none, .mov (.c (.bool true))⟩] [2, 3, 5, 35]
@[simp] theorem r6_Equal_c41_eq : aw PP r6_Equal_c41 K env H = awOps PP [⟨some 4, none, .mov (.c (.bool true))⟩] (regK K [2, 3, 5, 35]) (panK K) env H := aw_reg _ _
def r6_Equal_c42 : AC := .seq r6_Equal_c41 .ret
@[simp] theorem r6_Equal_c42_eq : aw PP r6_Equal_c42 K env H = aw PP r6_Equal_c41 (seqK PP .ret K) env H := aw_seq r6_Equal_c41 .ret
def r6_Equal_c43 : AC := .seq r6_Equal_c40 r6_Equal_c42
@[simp] theorem r6_Equal_c43_eq : aw PP r6_Equal_c43 K env H = aw PP r6_Equal_c40 (seqK PP r6_Equal_c42 K) env H := aw_seq r6_Equal_c40 r6_Equal_c42
def r6_Equal_c44 : AC := .seq r6_Equal_c5 r6_Equal_c43
@[simp] theorem r6_Equal_c44_eq : aw PP r6_Equal_c44 K env H = aw PP r6_Equal_c5 (seqK PP r6_Equal_c43 K) env H := aw_seq r6_Equal_c5 r6_Equal_c43
def r6_Equal_c45 : AC := .seq r6_Equal_c0 r6_Equal_c44
@[simp] theorem r6_Equal_c45_eq : aw PP r6_Equal_c45 K env H = aw PP r6_Equal_c0 (seqK PP r6_Equal_c44 K) env H := aw_seq r6_Equal_c0 r6_Equal_c44
def r6_Equal_ac : AC := r6_Equal_c45
@[simp] theorem r6_Equal_ac_eq : aw PP r6_Equal_ac K env H = aw PP r6_Equal_c45 K env H := Eq.trans rfl rfl
def r6_Equal_rs : List ARV := [.tmp 4]
abbrev r6_Equal_id : Nat := 16
theorem r6_Equal_comp : compF PP r6_Equal_kl r6_Equal_ow 2 Tryd.f16 = some (r6_Equal_ac, r6_Equal_rs) := by kernel_rfl
theorem r6_Equal_enter {args : List AV} {H : AHeap} {post : ARes → AHeap → Prop} (ha : args.length = 2) (h : aw PP r6_Equal_ac (retK r6_Equal_rs post) (argEnv 0 args) H) : ACalls PP r6_Equal_id args H post := .enterF Tryd.func16 PP_mix r6_Equal_comp ha h

end Go.Av
