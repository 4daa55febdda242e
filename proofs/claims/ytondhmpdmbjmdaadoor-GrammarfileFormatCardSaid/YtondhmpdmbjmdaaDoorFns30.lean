/- Functions of the given program, compiled to the own form by program. -/
import Derived.Test.YtondhmpdmbjmdaaDoorProg
import Derived.KernelRfl
import Derived.Test.YtondhmpdmbjmdaaDoorAvF
import Derived.Test.YtondhmpdmbjmdaaDoorFns19
set_option linter.unusedVariables false
set_option linter.unusedSimpArgs false
namespace Go.Av
open Go Go.Proofs
variable {K : AK} {env : Env} {H : AHeap}
/-! emendate.grammarparser.lex -/
def gP_lex_kl : Nat → List Nat
  | 0 => [2]
  | 3 => [8, 9, 10]
  | 4 => [11, 12, 13]
  | 5 => [14, 15]
  | 6 => [16, 17, 18]
  | 7 => [20, 21, 22, 23, 24, 25, 26, 27, 28, 29, 30, 31, 32, 33]
  | 8 => [5, 6, 7, 19, 34, 35]
  | 9 => [19, 37, 38]
  | 10 => [5, 6, 7, 36, 39, 40, 41]
  | 11 => [36, 43, 44]
  | 12 => [7, 42, 45, 46, 47]
  | 13 => [48]
  | 14 => [7, 42, 50, 51]
  | 15 => [49, 52, 53, 54]
  | 16 => [55, 56, 57, 58, 59, 60]
  | 17 => [4, 49, 61, 62, 63, 64, 65]
  | 18 => [5, 66, 67, 68, 69]
  | 19 => [6, 70]
  | 20 => [0, 3, 4, 11, 71]
  | _ => []
def gP_lex_ow : Nat → Nat → Bool := fun _ _ => false
def gP_lex_c0 : AC := .reg [⟨some 2, none, .mov (.c (.nils))⟩] [2]
@[simp] theorem gP_lex_c0_eq : aw PP gP_lex_c0 K env H = awOps PP [⟨some 2, none, .mov (.c (.nils))⟩] (regK K [2]) (panK K) env H := aw_reg _ _
def gP_lex_c1 : AC := .reg [⟨some 3, none, .mov (.c (.nils))⟩] []
@[simp] theorem gP_lex_c1_eq : aw PP gP_lex_c1 K env H = awOps PP [⟨some 3, none, .mov (.c (.nils))⟩] (regK K []) (panK K) env H := aw_reg _ _
def gP_lex_c2 : AC := .reg [⟨some 4, none, .mov (.c (.int (.i64) 0))⟩] []
@[simp] theorem gP_lex_c2_eq : aw PP gP_lex_c2 K env H = awOps PP [⟨some 4, none, .mov (.c (.int (.i64) 0))⟩] (regK K []) (panK K) env H := aw_reg _ _
def gP_lex_c3 : AC := .reg [⟨some 8, none, .mov (.t 4)⟩, ⟨some 9, none, .mov (.t 0)⟩, ⟨some 10, none, .lens (.t 9)⟩, ⟨some 11, none, .bin (.lss) (.t 8) (.t 10)⟩] [8, 9, 10]
@[simp] theorem gP_lex_c3_eq : aw PP gP_lex_c3 K env H = awOps PP [⟨some 8, none, .mov (.t 4)⟩, ⟨some 9, none, .mov (.t 0)⟩, ⟨some 10, none, .lens (.t 9)⟩, ⟨some 11, none, .bin (.lss) (.t 8) (.t 10)⟩] (regK K [8, 9, 10]) (panK K) env H := aw_reg _ _
def gP_lex_c4 : AC := .cond (.t 11) .skip (.exit 0)
@[simp] theorem gP_lex_c4_eq : aw PP gP_lex_c4 K env H = condQ PP (Opd.ev env (.t 11)) .skip (.exit 0) K env H := aw_cond _ .skip (.exit 0)
def gP_lex_c5 : AC := .seq gP_lex_c3 gP_lex_c4
@[simp] theorem gP_lex_c5_eq : aw PP gP_lex_c5 K env H = aw PP gP_lex_c3 (seqK PP gP_lex_c4 K) env H := aw_seq gP_lex_c3 gP_lex_c4
def gP_lex_c6 : AC := .reg [⟨some 12, none, .mov (.t 4)⟩, ⟨some 13, none, .build [.int (.i64) 0, .str [], .bool false, .int (.i64) 0] [(0, .t 12), (3, .c (.int (.i64) (-1)))]⟩, ⟨some 5, none, .alloc (.struct [.int (.i64) 0, .str [], .bool false, .int (.i64) 0]) 100⟩, ⟨none, none, .st 4 (.t 5) (.t 13)⟩] [11, 12, 13]
@[simp] theorem gP_lex_c6_eq : aw PP gP_lex_c6 K env H = awOps PP [⟨some 12, none, .mov (.t 4)⟩, ⟨some 13, none, .build [.int (.i64) 0, .str [], .bool false, .int (.i64) 0] [(0, .t 12), (3, .c (.int (.i64) (-1)))]⟩, ⟨some 5, none, .alloc (.struct [.int (.i64) 0, .str [], .bool false, .int (.i64) 0]) 100⟩, ⟨none, none, .st 4 (.t 5) (.t 13)⟩] (regK K [11, 12, 13]) (panK K) env H := aw_reg _ _
def gP_lex_c7 : AC := .reg [⟨some 14, none, .mov (.t 4)⟩, ⟨some 15, none, .bin (.add) (.t 14) (.c (.int (.i64) 1))⟩, ⟨some 6, none, .mov (.t 15)⟩] [14, 15]
@[simp] theorem gP_lex_c7_eq : aw PP gP_lex_c7 K env H = awOps PP [⟨some 14, none, .mov (.t 4)⟩, ⟨some 15, none, .bin (.add) (.t 14) (.c (.int (.i64) 1))⟩, ⟨some 6, none, .mov (.t 15)⟩] (regK K [14, 15]) (panK K) env H := aw_reg _ _
def gP_lex_c8 : AC := .reg [⟨some 16, none, .mov (.t 0)⟩, ⟨some 17, none, .mov (.t 4)⟩, ⟨some 18, none, .ix (.t 16) (.t 17)⟩, ⟨some 7, none, .mov (.t 18)⟩] [16, 17, 18]
@[simp] theorem gP_lex_c8_eq : aw PP gP_lex_c8 K env H = awOps PP [⟨some 16, none, .mov (.t 0)⟩, ⟨some 17, none, .mov (.t 4)⟩, ⟨some 18, none, .ix (.t 16) (.t 17)⟩, ⟨some 7, none, .mov (.t 18)⟩] (regK K [16, 17, 18]) (panK K) env H := aw_reg _ _
def gP_lex_c9 : AC := .reg [⟨some 20, none, .mov (.t 7)⟩, ⟨some 21, none, .bin (.eql) (.t 20) (.c (.int (.u8) 32))⟩, ⟨some 22, none, .mov (.t 21)⟩, ⟨some 23, some (22, false), .mov (.t 7)⟩, ⟨some 24, some (22, false), .bin (.eql) (.t 23) (.c (.int (.u8) 9))⟩, ⟨some 25, none, .pick (.t 22) (.c (.bool true)) (.t 24)⟩, ⟨some 26, none, .mov (.t 25)⟩, ⟨some 27, some (26, false), .mov (.t 7)⟩, ⟨some 28, some (26, false), .bin (.eql) (.t 27) (.c (.int (.u8) 13))⟩, ⟨some 29, none, .pick (.t 26) (.c (.bool true)) (.t 28)⟩, ⟨some 30, none, .mov (.t 29)⟩, ⟨some 31, some (30, false), .mov (.t 7)⟩, ⟨some 32, some (30, false), .bin (.eql) (.t 31) (.c (.int (.u8) 10))⟩, ⟨some 33, none, .pick (.t 30) (.c (.bool true)) (.t 32)⟩, ⟨some 19, none, .mov (.t 33)⟩] [20, 21, 22, 23, 24, 25, 26, 27, 28, 29, 30, 31, 32, 33]
@[simp] theorem gP_lex_c9_eq : aw PP gP_lex_c9 K env H = awOps PP [⟨some 20, none, .mov (.t 7)⟩, ⟨some 21, none, .bin (.eql) (.t 20) (.c (.int (.u8) 32))⟩, ⟨some 22, none, .mov (.t 21)⟩, ⟨some 23, some (22, false), .mov (.t 7)⟩, ⟨some 24, some (22, false), .bin (.eql) (.t 23) (.c (.int (.u8) 9))⟩, ⟨some 25, none, .pick (.t 22) (.c (.bool true)) (.t 24)⟩, ⟨some 26, none, .mov (.t 25)⟩, ⟨some 27, some (26, false), .mov (.t 7)⟩, ⟨some 28, some (26, false), .bin (.eql) (.t 27) (.c (.int (.u8) 13))⟩, ⟨some 29, none, .pick (.t 26) (.c (.bool true)) (.t 28)⟩, ⟨some 30, none, .mov (.t 29)⟩, ⟨some 31, some (30, false), .mov (.t 7)⟩, ⟨some 32, some (30, false), .bin (.eql) (.t 31) (.c (.int (.u8) 10))⟩, ⟨some 33, none, .pick (.t 30) (.c (.bool true)) (.t 32)⟩, ⟨some 19, none, .mov (.t 33)⟩] (regK K [20, 21, 22, 23, 24, 25, 26, 27, 28, 29, 30, 31, 32, 33]) (panK K) env H := aw_reg _ _
def gP_lex_c10 : AC := .reg [⟨some 34, none, .mov (.t 4)⟩, ⟨some 35, none, .bin (.add) (.t 34) (.c (.int (.i64) 1))⟩, ⟨some 4, none, .mov (.t 35)⟩] [5, 6, 7, 19, 34, 35]
@[simp] theorem gP_lex_c10_eq : aw PP gP_lex_c10 K env H = awOps PP [⟨some 34, none, .mov (.t 4)⟩, ⟨some 35, none, .bin (.add) (.t 34) (.c (.int (.i64) 1))⟩, ⟨some 4, none, .mov (.t 35)⟩] (regK K [5, 6, 7, 19, 34, 35]) (panK K) env H := aw_reg _ _
def gP_lex_c11 : AC := .seq gP_lex_c10 (.exit 1)
@[simp] theorem gP_lex_c11_eq : aw PP gP_lex_c11 K env H = aw PP gP_lex_c10 (seqK PP (.exit 1) K) env H := aw_seq gP_lex_c10 (.exit 1)
def gP_lex_c12 : AC := .reg [⟨some 37, none, .mov (.t 7)⟩, ⟨some 38, none, .bin (.eql) (.t 37) (.c (.int (.u8) 35))⟩, ⟨some 36, none, .mov (.t 38)⟩] [19, 37, 38]
@[simp] theorem gP_lex_c12_eq : aw PP gP_lex_c12 K env H = awOps PP [⟨some 37, none, .mov (.t 7)⟩, ⟨some 38, none, .bin (.eql) (.t 37) (.c (.int (.u8) 35))⟩, ⟨some 36, none, .mov (.t 38)⟩] (regK K [19, 37, 38]) (panK K) env H := aw_reg _ _
def gP_lex_c13 : AC := .reg [⟨some 39, none, .mov (.t 0)⟩, ⟨some 40, none, .mov (.t 4)⟩, ⟨some 41, none, .call (.c (.fn (.func 66) [] [])) [.t 39, .t 40, .c (.fn (.func 67) [] [])]⟩, ⟨some 4, none, .mov (.t 41)⟩] [5, 6, 7, 36, 39, 40, 41]
@[simp] theorem gP_lex_c13_eq : aw PP gP_lex_c13 K env H = awOps PP [⟨some 39, none, .mov (.t 0)⟩, ⟨some 40, none, .mov (.t 4)⟩, ⟨some 41, none, .call (.c (.fn (.func 66) [] [])) [.t 39, .t 40, .c (.fn (.func 67) [] [])]⟩, ⟨some 4, none, .mov (.t 41)⟩] (regK K [5, 6, 7, 36, 39, 40, 41]) (panK K) env H := aw_reg _ _
def gP_lex_c14 : AC := .seq gP_lex_c13 (.exit 1)
@[simp] theorem gP_lex_c14_eq : aw PP gP_lex_c14 K env H = aw PP gP_lex_c13 (seqK PP (.exit 1) K) env H := aw_seq gP_lex_c13 (.exit 1)
def gP_lex_c15 : AC := .reg [⟨some 43, none, .mov (.t 7)⟩, ⟨some 44, none, .call (.c (.fn (.func 68) [] [])) [.t 43]⟩, ⟨some 42, none, .mov (.t 44)⟩] [36, 43, 44]
@[simp] theorem gP_lex_c15_eq : aw PP gP_lex_c15 K env H = awOps PP [⟨some 43, none, .mov (.t 7)⟩, ⟨some 44, none, .call (.c (.fn (.func 68) [] [])) [.t 43]⟩, ⟨some 42, none, .mov (.t 44)⟩] (regK K [36, 43, 44]) (panK K) env H := aw_reg _ _
def gP_lex_c16 : AC := .reg [⟨some 45, none, .mov (.t 0)⟩, ⟨some 46, none, .mov (.t 4)⟩, ⟨some 47, none, .call (.c (.fn (.func 66) [] [])) [.t 45, .t 46, .c (.fn (.func 69) [] [])]⟩, ⟨some 6, none, .mov (.t 47)⟩] [7, 42, 45, 46, 47]
@[simp] theorem gP_lex_c16_eq : aw PP gP_lex_c16 K env H = awOps PP [⟨some 45, none, .mov (.t 0)⟩, ⟨some 46, none, .mov (.t 4)⟩, ⟨some 47, none, .call (.c (.fn (.func 66) [] [])) [.t 45, .t 46, .c (.fn (.func 69) [] [])]⟩, ⟨some 6, none, .mov (.t 47)⟩] (regK K [7, 42, 45, 46, 47]) (panK K) env H := aw_reg _ _
def gP_lex_c17 : AC := .reg [⟨some 48, none, .fa 2 2 (.t 5)⟩, ⟨none, none, .st 1 (.t 48) (.c (.bool true))⟩] [48]
@[simp] theorem gP_lex_c17_eq : aw PP gP_lex_c17 K env H = awOps PP [⟨some 48, none, .fa 2 2 (.t 5)⟩, ⟨none, none, .st 1 (.t 48) (.c (.bool true))⟩] (regK K [48]) (panK K) env H := aw_reg _ _
def gP_lex_c18 : AC := .seq gP_lex_c16 gP_lex_c17
@[simp] theorem gP_lex_c18_eq : aw PP gP_lex_c18 K env H = aw PP gP_lex_c16 (seqK PP gP_lex_c17 K) env H := aw_seq gP_lex_c16 gP_lex_c17
def gP_lex_c19 : AC := .reg [⟨some 50, none, .mov (.t 7)⟩, ⟨some 51, none, .call (.c (.fn (.func 70) [] [])) [.t 50]⟩, ⟨some 49, none, .mov (.t 51)⟩] [7, 42, 50, 51]
@[simp] theorem gP_lex_c19_eq : aw PP gP_lex_c19 K env H = awOps PP [⟨some 50, none, .mov (.t 7)⟩, ⟨some 51, none, .call (.c (.fn (.func 70) [] [])) [.t 50]⟩, ⟨some 49, none, .mov (.t 51)⟩] (regK K [7, 42, 50, 51]) (panK K) env H := aw_reg _ _
def gP_lex_c20 : AC := .reg [⟨some 52, none, .mov (.t 0)⟩, ⟨some 53, none, .mov (.t 4)⟩, ⟨some 54, none, .call (.c (.fn (.func 66) [] [])) [.t 52, .t 53, .c (.fn (.func 70) [] [])]⟩, ⟨some 6, none, .mov (.t 54)⟩] [49, 52, 53, 54]
@[simp] theorem gP_lex_c20_eq : aw PP gP_lex_c20 K env H = awOps PP [⟨some 52, none, .mov (.t 0)⟩, ⟨some 53, none, .mov (.t 4)⟩, ⟨some 54, none, .call (.c (.fn (.func 66) [] [])) [.t 52, .t 53, .c (.fn (.func 70) [] [])]⟩, ⟨some 6, none, .mov (.t 54)⟩] (regK K [49, 52, 53, 54]) (panK K) env H := aw_reg _ _
def gP_lex_c21 : AC := .reg [⟨some 55, none, .mov (.t 0)⟩, ⟨some 56, none, .mov (.t 4)⟩, ⟨some 57, none, .mov (.t 6)⟩, ⟨some 58, none, .sls (.t 55) (some (.t 56)) (some (.t 57))⟩, ⟨some 59, none, .call (.c (.fn (.func 71) [] [])) [.t 58]⟩, ⟨some 60, none, .fa 3 3 (.t 5)⟩, ⟨none, none, .st 1 (.t 60) (.t 59)⟩] [55, 56, 57, 58, 59, 60]
@[simp] theorem gP_lex_c21_eq : aw PP gP_lex_c21 K env H = awOps PP [⟨some 55, none, .mov (.t 0)⟩, ⟨some 56, none, .mov (.t 4)⟩, ⟨some 57, none, .mov (.t 6)⟩, ⟨some 58, none, .sls (.t 55) (some (.t 56)) (some (.t 57))⟩, ⟨some 59, none, .call (.c (.fn (.func 71) [] [])) [.t 58]⟩, ⟨some 60, none, .fa 3 3 (.t 5)⟩, ⟨none, none, .st 1 (.t 60) (.t 59)⟩] (regK K [55, 56, 57, 58, 59, 60]) (panK K) env H := aw_reg _ _
def gP_lex_c22 : AC := .seq gP_lex_c20 gP_lex_c21
@[simp] theorem gP_lex_c22_eq : aw PP gP_lex_c22 K env H = aw PP gP_lex_c20 (seqK PP gP_lex_c21 K) env H := aw_seq gP_lex_c20 gP_lex_c21
def gP_lex_c23 : AC := .cond (.t 49) gP_lex_c22 .skip
@[simp] theorem gP_lex_c23_eq : aw PP gP_lex_c23 K env H = condQ PP (Opd.ev env (.t 49)) gP_lex_c22 .skip K env H := aw_cond _ gP_lex_c22 .skip
def gP_lex_c24 : AC := .seq gP_lex_c19 gP_lex_c23
@[simp] theorem gP_lex_c24_eq : aw PP gP_lex_c24 K env H = aw PP gP_lex_c19 (seqK PP gP_lex_c23 K) env H := aw_seq gP_lex_c19 gP_lex_c23
def gP_lex_c25 : AC := .cond (.t 42) gP_lex_c18 gP_lex_c24
@[simp] theorem gP_lex_c25_eq : aw PP gP_lex_c25 K env H = condQ PP (Opd.ev env (.t 42)) gP_lex_c18 gP_lex_c24 K env H := aw_cond _ gP_lex_c18 gP_lex_c24
def gP_lex_c26 : AC := .seq gP_lex_c15 gP_lex_c25
@[simp] theorem gP_lex_c26_eq : aw PP gP_lex_c26 K env H = aw PP gP_lex_c15 (seqK PP gP_lex_c25 K) env H := aw_seq gP_lex_c15 gP_lex_c25
def gP_lex_c27 : AC := .cond (.t 36) gP_lex_c14 gP_lex_c26
@[simp] theorem gP_lex_c27_eq : aw PP gP_lex_c27 K env H = condQ PP (Opd.ev env (.t 36)) gP_lex_c14 gP_lex_c26 K env H := aw_cond _ gP_lex_c14 gP_lex_c26
def gP_lex_c28 : AC := .seq gP_lex_c12 gP_lex_c27
@[simp] theorem gP_lex_c28_eq : aw PP gP_lex_c28 K env H = aw PP gP_lex_c12 (seqK PP gP_lex_c27 K) env H := aw_seq gP_lex_c12 gP_lex_c27
def gP_lex_c29 : AC := .cond (.t 19) gP_lex_c11 gP_lex_c28
@[simp] theorem gP_lex_c29_eq : aw PP gP_lex_c29 K env H = condQ PP (Opd.ev env (.t 19)) gP_lex_c11 gP_lex_c28 K env H := aw_cond _ gP_lex_c11 gP_lex_c28
def gP_lex_c30 : AC := .seq gP_lex_c9 gP_lex_c29
@[simp] theorem gP_lex_c30_eq : aw PP gP_lex_c30 K env H = aw PP gP_lex_c9 (seqK PP gP_lex_c29 K) env H := aw_seq gP_lex_c9 gP_lex_c29
def gP_lex_c31 : AC := .block 2 gP_lex_c30
@[simp] theorem gP_lex_c31_eq : aw PP gP_lex_c31 K env H = aw PP gP_lex_c30 (blockK 2 K) env H := aw_block _ gP_lex_c30
def gP_lex_c32 : AC := .seq gP_lex_c8 gP_lex_c31
@[simp] theorem gP_lex_c32_eq : aw PP gP_lex_c32 K env H = aw PP gP_lex_c8 (seqK PP gP_lex_c31 K) env H := aw_seq gP_lex_c8 gP_lex_c31
def gP_lex_c33 : AC := .reg [⟨some 61, none, .mov (.t 0)⟩, ⟨some 62, none, .mov (.t 4)⟩, ⟨some 63, none, .mov (.t 6)⟩, ⟨some 64, none, .sls (.t 61) (some (.t 62)) (some (.t 63))⟩, ⟨some 65, none, .fa 1 1 (.t 5)⟩, ⟨none, none, .st 1 (.t 65) (.t 64)⟩] [4, 49, 61, 62, 63, 64, 65]
@[simp] theorem gP_lex_c33_eq : aw PP gP_lex_c33 K env H = awOps PP [⟨some 61, none, .mov (.t 0)⟩, ⟨some 62, none, .mov (.t 4)⟩, ⟨some 63, none, .mov (.t 6)⟩, ⟨some 64, none, .sls (.t 61) (some (.t 62)) (some (.t 63))⟩, ⟨some 65, none, .fa 1 1 (.t 5)⟩, ⟨none, none, .st 1 (.t 65) (.t 64)⟩] (regK K [4, 49, 61, 62, 63, 64, 65]) (panK K) env H := aw_reg _ _
def gP_lex_c34 : AC := .reg [⟨some 66, none, .mov (.t 3)⟩, ⟨some 67, none, .ld true 4 (.t 5)⟩, ⟨some 68, none, .bsl false 100 4 1 (.struct [.int (.i64) 0, .str [], .bool false, .int (.i64) 0]) [(0, .t 67)]⟩, ⟨some 69, none, .app 100 4 40 (.t 66) (.t 68)⟩, ⟨some 3, none, .mov (.t 69)⟩] [5, 66, 67, 68, 69]
@[simp] theorem gP_lex_c34_eq : aw PP gP_lex_c34 K env H = awOps PP [⟨some 66, none, .mov (.t 3)⟩, ⟨some 67, none, .ld true 4 (.t 5)⟩, ⟨some 68, none, .bsl false 100 4 1 (.struct [.int (.i64) 0, .str [], .bool false, .int (.i64) 0]) [(0, .t 67)]⟩, ⟨some 69, none, .app 100 4 40 (.t 66) (.t 68)⟩, ⟨some 3, none, .mov (.t 69)⟩] (regK K [5, 66, 67, 68, 69]) (panK K) env H := aw_reg _ _
def gP_lex_c35 : AC := .reg [⟨some 70, none, .mov (.t 6)⟩, ⟨some 4, none, .mov (.t 70)⟩] [6, 70]
@[simp] theorem gP_lex_c35_eq : aw PP gP_lex_c35 K env H = awOps PP [⟨some 70, none, .mov (.t 6)⟩, ⟨some 4, none, .mov (.t 70)⟩] (regK K [6, 70]) (panK K) env H := aw_reg _ _
def gP_lex_c36 : AC := .seq gP_lex_c34 gP_lex_c35
@[simp] theorem gP_lex_c36_eq : aw PP gP_lex_c36 K env H = aw PP gP_lex_c34 (seqK PP gP_lex_c35 K) env H := aw_seq gP_lex_c34 gP_lex_c35
def gP_lex_c37 : AC := .seq gP_lex_c33 gP_lex_c36
@[simp] theorem gP_lex_c37_eq : aw PP gP_lex_c37 K env H = aw PP gP_lex_c33 (seqK PP gP_lex_c36 K) env H := aw_seq gP_lex_c33 gP_lex_c36
def gP_lex_c38 : AC := .seq gP_lex_c32 gP_lex_c37
@[simp] theorem gP_lex_c38_eq : aw PP gP_lex_c38 K env H = aw PP gP_lex_c32 (seqK PP gP_lex_c37 K) env H := aw_seq gP_lex_c32 gP_lex_c37
def gP_lex_c39 : AC := .seq gP_lex_c7 gP_lex_c38
@[simp] theorem gP_lex_c39_eq : aw PP gP_lex_c39 K env H = aw PP gP_lex_c7 (seqK PP gP_lex_c38 K) env H := aw_seq gP_lex_c7 gP_lex_c38
def gP_lex_c40 : AC := .seq gP_lex_c6 gP_lex_c39
@[simp] theorem gP_lex_c40_eq : aw PP gP_lex_c40 K env H = aw PP gP_lex_c6 (seqK PP gP_lex_c39 K) env H := aw_seq gP_lex_c6 gP_lex_c39
def gP_lex_c41 : AC := .block 1 gP_lex_c40
@[simp] theorem gP_lex_c41_eq : aw PP gP_lex_c41 K env H = aw PP gP_lex_c40 (blockK 1 K) env H := aw_block _ gP_lex_c40
def gP_lex_c42 : AC := .seq gP_lex_c5 gP_lex_c41
@[simp] theorem gP_lex_c42_eq : aw PP gP_lex_c42 K env H = aw PP gP_lex_c5 (seqK PP gP_lex_c41 K) env H := aw_seq gP_lex_c5 gP_lex_c41
def gP_lex_c43 : AC := .loop gP_lex_c42
def gP_lex_c44 : AC := .block 0 gP_lex_c43
@[simp] theorem gP_lex_c44_eq : aw PP gP_lex_c44 K env H = aw PP gP_lex_c43 (blockK 0 K) env H := aw_block _ gP_lex_c43
def gP_lex_c45 : AC := .seq gP_lex_c2 gP_lex_c44
@[simp] theorem gP_lex_c45_eq : aw PP gP_lex_c45 K env H = aw PP gP_lex_c2 (seqK PP gP_lex_c44 K) env H := aw_seq gP_lex_c2 gP_lex_c44
def gP_lex_c46 : AC := .reg [⟨some 71, none, .mov (.t 3)⟩, ⟨some 2, none, .mov (.t 71)⟩] [0, 3, 4, 11, 71]
@[simp] theorem gP_lex_c46_eq : aw PP gP_lex_c46 K env H = awOps PP [⟨some 71, none, .mov (.t 3)⟩, ⟨some 2, none, .mov (.t 71)⟩] (regK K [0, 3, 4, 11, 71]) (panK K) env H := aw_reg _ _
def gP_lex_c47 : AC := .seq gP_lex_c46 .ret
@[simp] theorem gP_lex_c47_eq : aw PP gP_lex_c47 K env H = aw PP gP_lex_c46 (seqK PP .ret K) env H := aw_seq gP_lex_c46 .ret
def gP_lex_c48 : AC := .seq gP_lex_c45 gP_lex_c47
@[simp] theorem gP_lex_c48_eq : aw PP gP_lex_c48 K env H = aw PP gP_lex_c45 (seqK PP gP_lex_c47 K) env H := aw_seq gP_lex_c45 gP_lex_c47
def gP_lex_c49 : AC := .seq gP_lex_c1 gP_lex_c48
@[simp] theorem gP_lex_c49_eq : aw PP gP_lex_c49 K env H = aw PP gP_lex_c1 (seqK PP gP_lex_c48 K) env H := aw_seq gP_lex_c1 gP_lex_c48
def gP_lex_c50 : AC := .seq gP_lex_c0 gP_lex_c49
@[simp] theorem gP_lex_c50_eq : aw PP gP_lex_c50 K env H = aw PP gP_lex_c0 (seqK PP gP_lex_c49 K) env H := aw_seq gP_lex_c0 gP_lex_c49
def gP_lex_ac : AC := gP_lex_c50
@[simp] theorem gP_lex_ac_eq : aw PP gP_lex_ac K env H = aw PP gP_lex_c50 K env H := Eq.trans rfl rfl
def gP_lex_rs : List ARV := [.tmp 2]
abbrev gP_lex_id : Nat := 48
theorem gP_lex_comp : compF PP gP_lex_kl gP_lex_ow 1 Tryd.f48 = some (gP_lex_ac, gP_lex_rs) := by kernel_rfl
theorem gP_lex_enter {args : List AV} {H : AHeap} {post : ARes → AHeap → Prop} (ha : args.length = 1) (h : aw PP gP_lex_ac (retK gP_lex_rs post) (argEnv 0 args) H) : ACalls PP gP_lex_id args H post := .enterF Tryd.func48 PP_mix gP_lex_comp ha h

/-! (*emendate.grammarparser.reader).expect -/
def gR_expect_kl : Nat → List Nat
  | 0 => [1, 4, 5, 6, 7]
  | 1 => [8, 9, 10]
  | 2 => [0, 8, 11, 12]
  | _ => []
def gR_expect_ow : Nat → Nat → Bool := fun _ _ => false
def gR_expect_c0 : AC := .reg [⟨some 4, none, .mov (.t 0)⟩, ⟨some 5, none, .call (.c (.fn (.func 72) [] [])) [.t 4]⟩, ⟨some 6, none, .fld 1 1 1 false (.t 5)⟩, ⟨some 7, none, .mov (.t 1)⟩, ⟨some 8, none, .bin (.neq) (.t 6) (.t 7)⟩] [1, 4, 5, 6, 7]
@[simp] theorem gR_expect_c0_eq : aw PP gR_expect_c0 K env H = awOps PP [⟨some 4, none, .mov (.t 0)⟩, ⟨some 5, none, .call (.c (.fn (.func 72) [] [])) [.t 4]⟩, ⟨some 6, none, .fld 1 1 1 false (.t 5)⟩, ⟨some 7, none, .mov (.t 1)⟩, ⟨some 8, none, .bin (.neq) (.t 6) (.t 7)⟩] (regK K [1, 4, 5, 6, 7]) (panK K) env H := aw_reg _ _
def gR_expect_c1 : AC := .reg [⟨some 9, none, .mov (.t 0)⟩, ⟨some 10, none, .call (.c (.fn (.func 73) [] [])) [.t 9]⟩] [8, 9, 10]
@[simp] theorem gR_expect_c1_eq : aw PP gR_expect_c1 K env H = awOps PP [⟨some 9, none, .mov (.t 0)⟩, ⟨some 10, none, .call (.c (.fn (.func 73) [] [])) [.t 9]⟩] (regK K [8, 9, 10]) (panK K) env H := aw_reg _ _
def gR_expect_c2 : AC := .cond (.t 8) gR_expect_c1 .skip
@[simp] theorem gR_expect_c2_eq : aw PP gR_expect_c2 K env H = condQ PP (Opd.ev env (.t 8)) gR_expect_c1 .skip K env H := aw_cond _ gR_expect_c1 .skip
def gR_expect_c3 : AC := .seq gR_expect_c0 gR_expect_c2
@[simp] theorem gR_expect_c3_eq : aw PP gR_expect_c3 K env H = aw PP gR_expect_c0 (seqK PP gR_expect_c2 K) env H := aw_seq gR_expect_c0 gR_expect_c2
def gR_expect_c4 : AC := .reg [⟨some 11, none, .mov (.t 0)⟩, ⟨some 12, none, .call (.c (.fn (.func 74) [] [])) [.t 11]⟩] [0, 8, 11, 12]
@[simp] theorem gR_expect_c4_eq : aw PP gR_expect_c4 K env H = awOps PP [⟨some 11, none, .mov (.t 0)⟩, ⟨some 12, none, .call (.c (.fn (.func 74) [] [])) [.t 11]⟩] (regK K [0, 8, 11, 12]) (panK K) env H := aw_reg _ _
def gR_expect_c5 : AC := .seq gR_expect_c3 gR_expect_c4
@[simp] theorem gR_expect_c5_eq : aw PP gR_expect_c5 K env H = aw PP gR_expect_c3 (seqK PP gR_expect_c4 K) env H := aw_seq gR_expect_c3 gR_expect_c4
def gR_expect_ac : AC := gR_expect_c5
@[simp] theorem gR_expect_ac_eq : aw PP gR_expect_ac K env H = aw PP gR_expect_c5 K env H := Eq.trans rfl rfl
def gR_expect_rs : List ARV := []
abbrev gR_expect_id : Nat := 49
theorem gR_expect_comp : compF PP gR_expect_kl gR_expect_ow 2 Tryd.f49 = some (gR_expect_ac, gR_expect_rs) := by kernel_rfl
theorem gR_expect_enter {args : List AV} {H : AHeap} {post : ARes → AHeap → Prop} (ha : args.length = 2) (h : aw PP gR_expect_ac (retK gR_expect_rs post) (argEnv 0 args) H) : ACalls PP gR_expect_id args H post := .enterF Tryd.func49 PP_mix gR_expect_comp ha h

/-! (*emendate.grammarparser.reader).name -/
def gR_name_kl : Nat → List Nat
  | 0 => [2]
  | 1 => [4, 5]
  | 2 => [3, 6, 7, 8, 9, 10, 11, 12]
  | 3 => [13, 14, 15]
  | 4 => [0, 13, 16, 17, 18]
  | _ => []
def gR_name_ow : Nat → Nat → Bool := fun _ _ => false
def gR_name_c0 : AC := .reg [⟨some 2, none, .mov (.c (.str []))⟩] [2]
@[simp] theorem gR_name_c0_eq : aw PP gR_name_c0 K env H = awOps PP [⟨some 2, none, .mov (.c (.str []))⟩] (regK K [2]) (panK K) env H := aw_reg _ _
def gR_name_c1 : AC := .reg [⟨some 4, none, .mov (.t 0)⟩, ⟨some 5, none, .call (.c (.fn (.func 72) [] [])) [.t 4]⟩, ⟨some 3, none, .alloc (.struct [.int (.i64) 0, .str [], .bool false, .int (.i64) 0]) 100⟩, ⟨none, none, .st 4 (.t 3) (.t 5)⟩] [4, 5]
@[simp] theorem gR_name_c1_eq : aw PP gR_name_c1 K env H = awOps PP [⟨some 4, none, .mov (.t 0)⟩, ⟨some 5, none, .call (.c (.fn (.func 72) [] [])) [.t 4]⟩, ⟨some 3, none, .alloc (.struct [.int (.i64) 0, .str [], .bool false, .int (.i64) 0]) 100⟩, ⟨none, none, .st 4 (.t 3) (.t 5)⟩] (regK K [4, 5]) (panK K) env H := aw_reg _ _
def gR_name_c2 : AC := .reg [⟨some 6, none, .fa 2 2 (.t 3)⟩, ⟨some 7, none, .ld false 1 (.t 6)⟩, ⟨some 8, none, .not (.t 7)⟩, ⟨some 9, none, .mov (.t 8)⟩, ⟨some 10, some (9, false), .fa 1 1 (.t 3)⟩, ⟨some 11, some (9, false), .ld false 1 (.t 10)⟩, ⟨some 12, some (9, false), .call (.c (.fn (.func 75) [] [])) [.t 11]⟩, ⟨some 13, none, .pick (.t 9) (.c (.bool true)) (.t 12)⟩] [3, 6, 7, 8, 9, 10, 11, 12]
@[simp] theorem gR_name_c2_eq : aw PP gR_name_c2 K env H = awOps PP [⟨some 6, none, .fa 2 2 (.t 3)⟩, ⟨some 7, none, .ld false 1 (.t 6)⟩, ⟨some 8, none, .not (.t 7)⟩, ⟨some 9, none, .mov (.t 8)⟩, ⟨some 10, some (9, false), .fa 1 1 (.t 3)⟩, ⟨some 11, some (9, false), .ld false 1 (.t 10)⟩, ⟨some 12, some (9, false), .call (.c (.fn (.func 75) [] [])) [.t 11]⟩, ⟨some 13, none, .pick (.t 9) (.c (.bool true)) (.t 12)⟩] (regK K [3, 6, 7, 8, 9, 10, 11, 12]) (panK K) env H := aw_reg _ _
def gR_name_c3 : AC := .reg [⟨some 14, none, .mov (.t 0)⟩, ⟨some 15, none, .call (.c (.fn (.func 73) [] [])) [.t 14]⟩] [13, 14, 15]
@[simp] theorem gR_name_c3_eq : aw PP gR_name_c3 K env H = awOps PP [⟨some 14, none, .mov (.t 0)⟩, ⟨some 15, none, .call (.c (.fn (.func 73) [] [])) [.t 14]⟩] (regK K [13, 14, 15]) (panK K) env H := aw_reg _ _
def gR_name_c4 : AC := .cond (.t 13) gR_name_c3 .skip
@[simp] theorem gR_name_c4_eq : aw PP gR_name_c4 K env H = condQ PP (Opd.ev env (.t 13)) gR_name_c3 .skip K env H := aw_cond _ gR_name_c3 .skip
def gR_name_c5 : AC := .seq gR_name_c2 gR_name_c4
@[simp] theorem gR_name_c5_eq : aw PP gR_name_c5 K env H = aw PP gR_name_c2 (seqK PP gR_name_c4 K) env H := aw_seq gR_name_c2 gR_name_c4
def gR_name_c6 : AC := .seq gR_name_c1 gR_name_c5
@[simp] theorem gR_name_c6_eq : aw PP gR_name_c6 K env H = aw PP gR_name_c1 (seqK PP gR_name_c5 K) env H := aw_seq gR_name_c1 gR_name_c5
def gR_name_c7 : AC := .reg [⟨some 16, none, .mov (.t 0)⟩, ⟨some 17, none, .call (.c (.fn (.func 74) [] [])) [.t 16]⟩, ⟨some 18, none, .fld 1 1 1 false (.t 17)⟩, ⟨some 2, none, .mov (.t 18)⟩] [0, 13, 16, 17, 18]
@[simp] theorem gR_name_c7_eq : aw PP gR_name_c7 K env H = awOps PP [⟨some 16, none, .mov (.t 0)⟩, ⟨some 17, none, .call (.c (.fn (.func 74) [] [])) [.t 16]⟩, ⟨some 18, none, .fld 1 1 1 false (.t 17)⟩, ⟨some 2, none, .mov (.t 18)⟩] (regK K [0, 13, 16, 17, 18]) (panK K) env H := aw_reg _ _
def gR_name_c8 : AC := .seq gR_name_c7 .ret
@[simp] theorem gR_name_c8_eq : aw PP gR_name_c8 K env H = aw PP gR_name_c7 (seqK PP .ret K) env H := aw_seq gR_name_c7 .ret
def gR_name_c9 : AC := .seq gR_name_c6 gR_name_c8
@[simp] theorem gR_name_c9_eq : aw PP gR_name_c9 K env H = aw PP gR_name_c6 (seqK PP gR_name_c8 K) env H := aw_seq gR_name_c6 gR_name_c8
def gR_name_c10 : AC := .seq gR_name_c0 gR_name_c9
@[simp] theorem gR_name_c10_eq : aw PP gR_name_c10 K env H = aw PP gR_name_c0 (seqK PP gR_name_c9 K) env H := aw_seq gR_name_c0 gR_name_c9
def gR_name_ac : AC := gR_name_c10
@[simp] theorem gR_name_ac_eq : aw PP gR_name_ac K env H = aw PP gR_name_c10 K env H := Eq.trans rfl rfl
def gR_name_rs : List ARV := [.tmp 2]
abbrev gR_name_id : Nat := 50
theorem gR_name_comp : compF PP gR_name_kl gR_name_ow 1 Tryd.f50 = some (gR_name_ac, gR_name_rs) := by kernel_rfl
theorem gR_name_enter {args : List AV} {H : AHeap} {post : ARes → AHeap → Prop} (ha : args.length = 1) (h : aw PP gR_name_ac (retK gR_name_rs post) (argEnv 0 args) H) : ACalls PP gR_name_id args H post := .enterF Tryd.func50 PP_mix gR_name_comp ha h

/-! (*emendate.grammarparser.reader).levels -/
def gR_levels_kl : Nat → List Nat
  | 0 => [2]
  | 2 => [4, 5]
  | 3 => [0, 3, 7, 22]
  | 4 => [9]
  | 5 => [6, 8, 10, 11, 12, 13, 14]
  | 6 => [8, 16]
  | 7 => [6, 15, 17, 18, 19, 20, 21]
  | 8 => [6, 15, 23]
  | 9 => [22, 24, 25, 26, 27, 28]
  | _ => []
def gR_levels_ow : Nat → Nat → Bool := fun _ _ => false
def gR_levels_c0 : AC := .reg [⟨some 2, none, .mov (.c (.nils))⟩] [2]
@[simp] theorem gR_levels_c0_eq : aw PP gR_levels_c0 K env H = awOps PP [⟨some 2, none, .mov (.c (.nils))⟩] (regK K [2]) (panK K) env H := aw_reg _ _
def gR_levels_c1 : AC := .reg [⟨some 3, none, .mov (.c (.nils))⟩] []
@[simp] theorem gR_levels_c1_eq : aw PP gR_levels_c1 K env H = awOps PP [⟨some 3, none, .mov (.c (.nils))⟩] (regK K []) (panK K) env H := aw_reg _ _
def gR_levels_c2 : AC := .reg [⟨some 4, none, .mov (.t 0)⟩, ⟨some 5, none, .call (.c (.fn (.func 72) [] [])) [.t 4]⟩, ⟨some 6, none, .fld 1 1 1 false (.t 5)⟩] [4, 5]
@[simp] theorem gR_levels_c2_eq : aw PP gR_levels_c2 K env H = awOps PP [⟨some 4, none, .mov (.t 0)⟩, ⟨some 5, none, .call (.c (.fn (.func 72) [] [])) [.t 4]⟩, ⟨some 6, none, .fld 1 1 1 false (.t 5)⟩] (regK K [4, 5]) (panK K) env H := aw_reg _ _
def gR_levels_c3 : AC := .reg [⟨some 9, none, .bin (.eql) (.t 6) (.c (.str [108, 101, 102, 116]))⟩, ⟨some 8, none, .mov (.t 9)⟩] [9]
@[simp] theorem gR_levels_c3_eq : aw PP gR_levels_c3 K env H = awOps PP [⟨some 9, none, .bin (.eql) (.t 6) (.c (.str [108, 101, 102, 116]))⟩, ⟨some 8, none, .mov (.t 9)⟩] (regK K [9]) (panK K) env H := aw_reg _ _
def gR_levels_c4 : AC := .reg [⟨some 10, none, .mov (.t 3)⟩, ⟨some 11, none, .mov (.t 0)⟩, ⟨some 12, none, .call (.c (.fn (.func 76) [] [])) [.t 11, .c (.int (.i64) 1)]⟩, ⟨some 13, none, .bsl false 51 2 1 (.struct [.int (.i64) 0, .nils]) [(0, .t 12)]⟩, ⟨some 14, none, .app 51 2 32 (.t 10) (.t 13)⟩, ⟨some 3, none, .mov (.t 14)⟩] [6, 8, 10, 11, 12, 13, 14]
@[simp] theorem gR_levels_c4_eq : aw PP gR_levels_c4 K env H = awOps PP [⟨some 10, none, .mov (.t 3)⟩, ⟨some 11, none, .mov (.t 0)⟩, ⟨some 12, none, .call (.c (.fn (.func 76) [] [])) [.t 11, .c (.int (.i64) 1)]⟩, ⟨some 13, none, .bsl false 51 2 1 (.struct [.int (.i64) 0, .nils]) [(0, .t 12)]⟩, ⟨some 14, none, .app 51 2 32 (.t 10) (.t 13)⟩, ⟨some 3, none, .mov (.t 14)⟩] (regK K [6, 8, 10, 11, 12, 13, 14]) (panK K) env H := aw_reg _ _
def gR_levels_c5 : AC := .reg [⟨some 16, none, .bin (.eql) (.t 6) (.c (.str [114, 105, 103, 104, 116]))⟩, ⟨some 15, none, .mov (.t 16)⟩] [8, 16]
@[simp] theorem gR_levels_c5_eq : aw PP gR_levels_c5 K env H = awOps PP [⟨some 16, none, .bin (.eql) (.t 6) (.c (.str [114, 105, 103, 104, 116]))⟩, ⟨some 15, none, .mov (.t 16)⟩] (regK K [8, 16]) (panK K) env H := aw_reg _ _
def gR_levels_c6 : AC := .reg [⟨some 17, none, .mov (.t 3)⟩, ⟨some 18, none, .mov (.t 0)⟩, ⟨some 19, none, .call (.c (.fn (.func 76) [] [])) [.t 18, .c (.int (.i64) 2)]⟩, ⟨some 20, none, .bsl false 51 2 1 (.struct [.int (.i64) 0, .nils]) [(0, .t 19)]⟩, ⟨some 21, none, .app 51 2 32 (.t 17) (.t 20)⟩, ⟨some 3, none, .mov (.t 21)⟩] [6, 15, 17, 18, 19, 20, 21]
@[simp] theorem gR_levels_c6_eq : aw PP gR_levels_c6 K env H = awOps PP [⟨some 17, none, .mov (.t 3)⟩, ⟨some 18, none, .mov (.t 0)⟩, ⟨some 19, none, .call (.c (.fn (.func 76) [] [])) [.t 18, .c (.int (.i64) 2)]⟩, ⟨some 20, none, .bsl false 51 2 1 (.struct [.int (.i64) 0, .nils]) [(0, .t 19)]⟩, ⟨some 21, none, .app 51 2 32 (.t 17) (.t 20)⟩, ⟨some 3, none, .mov (.t 21)⟩] (regK K [6, 15, 17, 18, 19, 20, 21]) (panK K) env H := aw_reg _ _
def gR_levels_c7 : AC := .reg [⟨some 23, none, .bin (.eql) (.t 6) (.c (.str [110, 111, 110, 101]))⟩, ⟨some 22, none, .mov (.t 23)⟩] [6, 15, 23]
@[simp] theorem gR_levels_c7_eq : aw PP gR_levels_c7 K env H = awOps PP [⟨some 23, none, .bin (.eql) (.t 6) (.c (.str [110, 111, 110, 101]))⟩, ⟨some 22, none, .mov (.t 23)⟩] (regK K [6, 15, 23]) (panK K) env H := aw_reg _ _
def gR_levels_c8 : AC := .reg [⟨some 24, none, .mov (.t 3)⟩, ⟨some 25, none, .mov (.t 0)⟩, ⟨some 26, none, .call (.c (.fn (.func 76) [] [])) [.t 25, .c (.int (.i64) 3)]⟩, ⟨some 27, none, .bsl false 51 2 1 (.struct [.int (.i64) 0, .nils]) [(0, .t 26)]⟩, ⟨some 28, none, .app 51 2 32 (.t 24) (.t 27)⟩, ⟨some 3, none, .mov (.t 28)⟩] [22, 24, 25, 26, 27, 28]
@[simp] theorem gR_levels_c8_eq : aw PP gR_levels_c8 K env H = awOps PP [⟨some 24, none, .mov (.t 3)⟩, ⟨some 25, none, .mov (.t 0)⟩, ⟨some 26, none, .call (.c (.fn (.func 76) [] [])) [.t 25, .c (.int (.i64) 3)]⟩, ⟨some 27, none, .bsl false 51 2 1 (.struct [.int (.i64) 0, .nils]) [(0, .t 26)]⟩, ⟨some 28, none, .app 51 2 32 (.t 24) (.t 27)⟩, ⟨some 3, none, .mov (.t 28)⟩] (regK K [22, 24, 25, 26, 27, 28]) (panK K) env H := aw_reg _ _
def gR_levels_c9 : AC := .reg [⟨some 7, none, .mov (.t 3)⟩, ⟨some 2, none, .mov (.t 7)⟩] [0, 3, 7, 22]
@[simp] theorem gR_levels_c9_eq : aw PP gR_levels_c9 K env H = awOps PP [⟨some 7, none, .mov (.t 3)⟩, ⟨some 2, none, .mov (.t 7)⟩] (regK K [0, 3, 7, 22]) (panK K) env H := aw_reg _ _
def gR_levels_c10 : AC := .seq gR_levels_c9 .ret
@[simp] theorem gR_levels_c10_eq : aw PP gR_levels_c10 K env H = aw PP gR_levels_c9 (seqK PP .ret K) env H := aw_seq gR_levels_c9 .ret
def gR_levels_c11 : AC := .cond (.t 22) gR_levels_c8 gR_levels_c10
@[simp] theorem gR_levels_c11_eq : aw PP gR_levels_c11 K env H = condQ PP (Opd.ev env (.t 22)) gR_levels_c8 gR_levels_c10 K env H := aw_cond _ gR_levels_c8 gR_levels_c10
def gR_levels_c12 : AC := .seq gR_levels_c7 gR_levels_c11
@[simp] theorem gR_levels_c12_eq : aw PP gR_levels_c12 K env H = aw PP gR_levels_c7 (seqK PP gR_levels_c11 K) env H := aw_seq gR_levels_c7 gR_levels_c11
def gR_levels_c13 : AC := .cond (.t 15) gR_levels_c6 gR_levels_c12
@[simp] theorem gR_levels_c13_eq : aw PP gR_levels_c13 K env H = condQ PP (Opd.ev env (.t 15)) gR_levels_c6 gR_levels_c12 K env H := aw_cond _ gR_levels_c6 gR_levels_c12
def gR_levels_c14 : AC := .seq gR_levels_c5 gR_levels_c13
@[simp] theorem gR_levels_c14_eq : aw PP gR_levels_c14 K env H = aw PP gR_levels_c5 (seqK PP gR_levels_c13 K) env H := aw_seq gR_levels_c5 gR_levels_c13
def gR_levels_c15 : AC := .cond (.t 8) gR_levels_c4 gR_levels_c14
@[simp] theorem gR_levels_c15_eq : aw PP gR_levels_c15 K env H = condQ PP (Opd.ev env (.t 8)) gR_levels_c4 gR_levels_c14 K env H := aw_cond _ gR_levels_c4 gR_levels_c14
def gR_levels_c16 : AC := .seq gR_levels_c3 gR_levels_c15
@[simp] theorem gR_levels_c16_eq : aw PP gR_levels_c16 K env H = aw PP gR_levels_c3 (seqK PP gR_levels_c15 K) env H := aw_seq gR_levels_c3 gR_levels_c15
def gR_levels_c17 : AC := .block 2 gR_levels_c16
@[simp] theorem gR_levels_c17_eq : aw PP gR_levels_c17 K env H = aw PP gR_levels_c16 (blockK 2 K) env H := aw_block _ gR_levels_c16
def gR_levels_c18 : AC := .seq gR_levels_c2 gR_levels_c17
@[simp] theorem gR_levels_c18_eq : aw PP gR_levels_c18 K env H = aw PP gR_levels_c2 (seqK PP gR_levels_c17 K) env H := aw_seq gR_levels_c2 gR_levels_c17
def gR_levels_c19 : AC := .block 1 gR_levels_c18
@[simp] theorem gR_levels_c19_eq : aw PP gR_levels_c19 K env H = aw PP gR_levels_c18 (blockK 1 K) env H := aw_block _ gR_levels_c18
def gR_levels_c20 : AC := .loop gR_levels_c19
def gR_levels_c21 : AC := .block 0 gR_levels_c20
@[simp] theorem gR_levels_c21_eq : aw PP gR_levels_c21 K env H = aw PP gR_levels_c20 (blockK 0 K) env H := aw_block _ gR_levels_c20
def gR_levels_c22 : AC := .seq gR_levels_c1 gR_levels_c21
@[simp] theorem gR_levels_c22_eq : aw PP gR_levels_c22 K env H = aw PP gR_levels_c1 (seqK PP gR_levels_c21 K) env H := aw_seq gR_levels_c1 gR_levels_c21
def gR_levels_c23 : AC := .seq gR_levels_c0 gR_levels_c22
@[simp] theorem gR_levels_c23_eq : aw PP gR_levels_c23 K env H = aw PP gR_levels_c0 (seqK PP gR_levels_c22 K) env H := aw_seq gR_levels_c0 gR_levels_c22
def gR_levels_ac : AC := gR_levels_c23
@[simp] theorem gR_levels_ac_eq : aw PP gR_levels_ac K env H = aw PP gR_levels_c23 K env H := Eq.trans rfl rfl
def gR_levels_rs : List ARV := [.tmp 2]
abbrev gR_levels_id : Nat := 51
theorem gR_levels_comp : compF PP gR_levels_kl gR_levels_ow 1 Tryd.f51 = some (gR_levels_ac, gR_levels_rs) := by kernel_rfl
theorem gR_levels_enter {args : List AV} {H : AHeap} {post : ARes → AHeap → Prop} (ha : args.length = 1) (h : aw PP gR_levels_ac (retK gR_levels_rs post) (argEnv 0 args) H) : ACalls PP gR_levels_id args H post := .enterF Tryd.func51 PP_mix gR_levels_comp ha h

/-! (*emendate.grammarparser.reader).rule -/
def gR_rule_kl : Nat → List Nat
  | 1 => [5, 6, 7]
  | 2 => [8, 9]
  | 3 => [10, 11, 12, 13, 14, 15]
  | 4 => [16, 17, 18]
  | 5 => [19, 20, 21]
  | 6 => [22, 23, 24, 25, 26, 27]
  | 7 => [4, 28, 29]
  | 8 => [0, 19, 30, 31]
  | 9 => [3, 32]
  | _ => []
def gR_rule_ow : Nat → Nat → Bool := fun a b => (a == 3 && b == 0)
def gR_rule_c0 : AC := .reg [⟨some 2, none, .alloc (.struct [.str [], .nils]) 41⟩] []
@[simp] theorem gR_rule_c0_eq : aw PP gR_rule_c0 K env H = awOps PP [⟨some 2, none, .alloc (.struct [.str [], .nils]) 41⟩] (regK K []) (panK K) env H := aw_reg _ _
def gR_rule_c1 : AC := .reg [⟨some 5, none, .mov (.t 0)⟩, ⟨some 6, none, .call (.c (.fn (.func 50) [] [])) [.t 5]⟩, ⟨some 7, none, .build [.str [], .nils] [(0, .t 6)]⟩, ⟨some 3, none, .alloc (.struct [.str [], .nils]) 41⟩, ⟨none, none, .st 2 (.t 3) (.t 7)⟩] [5, 6, 7]
@[simp] theorem gR_rule_c1_eq : aw PP gR_rule_c1 K env H = awOps PP [⟨some 5, none, .mov (.t 0)⟩, ⟨some 6, none, .call (.c (.fn (.func 50) [] [])) [.t 5]⟩, ⟨some 7, none, .build [.str [], .nils] [(0, .t 6)]⟩, ⟨some 3, none, .alloc (.struct [.str [], .nils]) 41⟩, ⟨none, none, .st 2 (.t 3) (.t 7)⟩] (regK K [5, 6, 7]) (panK K) env H := aw_reg _ _
def gR_rule_c2 : AC := .reg [⟨some 8, none, .mov (.t 0)⟩, ⟨some 9, none, .call (.c (.fn (.func 49) [] [])) [.t 8, .c (.str [61])]⟩] [8, 9]
@[simp] theorem gR_rule_c2_eq : aw PP gR_rule_c2 K env H = awOps PP [⟨some 8, none, .mov (.t 0)⟩, ⟨some 9, none, .call (.c (.fn (.func 49) [] [])) [.t 8, .c (.str [61])]⟩] (regK K [8, 9]) (panK K) env H := aw_reg _ _
def gR_rule_c3 : AC := .reg [⟨some 10, none, .bsl true 38 4 0 (.struct [.struct [.int (.i64) 0, .str [], .nils], .int (.i64) 0]) []⟩, ⟨some 11, none, .mov (.t 0)⟩, ⟨some 12, none, .call (.c (.fn (.func 77) [] [])) [.t 11]⟩, ⟨some 13, none, .bsl false 38 4 1 (.struct [.struct [.int (.i64) 0, .str [], .nils], .int (.i64) 0]) [(0, .t 12)]⟩, ⟨some 14, none, .app 38 4 56 (.t 10) (.t 13)⟩, ⟨some 15, none, .fa 1 1 (.t 3)⟩, ⟨none, none, .st 1 (.t 15) (.t 14)⟩] [10, 11, 12, 13, 14, 15]
@[simp] theorem gR_rule_c3_eq : aw PP gR_rule_c3 K env H = awOps PP [⟨some 10, none, .bsl true 38 4 0 (.struct [.struct [.int (.i64) 0, .str [], .nils], .int (.i64) 0]) []⟩, ⟨some 11, none, .mov (.t 0)⟩, ⟨some 12, none, .call (.c (.fn (.func 77) [] [])) [.t 11]⟩, ⟨some 13, none, .bsl false 38 4 1 (.struct [.struct [.int (.i64) 0, .str [], .nils], .int (.i64) 0]) [(0, .t 12)]⟩, ⟨some 14, none, .app 38 4 56 (.t 10) (.t 13)⟩, ⟨some 15, none, .fa 1 1 (.t 3)⟩, ⟨none, none, .st 1 (.t 15) (.t 14)⟩] (regK K [10, 11, 12, 13, 14, 15]) (panK K) env H := aw_reg _ _
def gR_rule_c4 : AC := .reg [⟨some 16, none, .mov (.t 0)⟩, ⟨some 17, none, .call (.c (.fn (.func 72) [] [])) [.t 16]⟩, ⟨some 18, none, .fld 1 1 1 false (.t 17)⟩, ⟨some 19, none, .bin (.eql) (.t 18) (.c (.str [124]))⟩] [16, 17, 18]
@[simp] theorem gR_rule_c4_eq : aw PP gR_rule_c4 K env H = awOps PP [⟨some 16, none, .mov (.t 0)⟩, ⟨some 17, none, .call (.c (.fn (.func 72) [] [])) [.t 16]⟩, ⟨some 18, none, .fld 1 1 1 false (.t 17)⟩, ⟨some 19, none, .bin (.eql) (.t 18) (.c (.str [124]))⟩] (regK K [16, 17, 18]) (panK K) env H := aw_reg _ _
def gR_rule_c5 : AC := .cond (.t 19) .skip (.exit 0)
@[simp] theorem gR_rule_c5_eq : aw PP gR_rule_c5 K env H = condQ PP (Opd.ev env (.t 19)) .skip (.exit 0) K env H := aw_cond _ .skip (.exit 0)
def gR_rule_c6 : AC := .seq gR_rule_c4 gR_rule_c5
@[simp] theorem gR_rule_c6_eq : aw PP gR_rule_c6 K env H = aw PP gR_rule_c4 (seqK PP gR_rule_c5 K) env H := aw_seq gR_rule_c4 gR_rule_c5
def gR_rule_c7 : AC := .reg [⟨some 20, none, .mov (.t 0)⟩, ⟨some 21, none, .call (.c (.fn (.func 74) [] [])) [.t 20]⟩] [19, 20, 21]
@[simp] theorem gR_rule_c7_eq : aw PP gR_rule_c7 K env H = awOps PP [⟨some 20, none, .mov (.t 0)⟩, ⟨some 21, none, .call (.c (.fn (.func 74) [] [])) [.t 20]⟩] (regK K [19, 20, 21]) (panK K) env H := aw_reg _ _
def gR_rule_c8_ops : List (AI × List Nat) := [(⟨some 22, none, .fa 1 1 (.t 3)⟩, []), (⟨some 23, none, .ld false 1 (.t 22)⟩, [0]), (⟨some 24, none, .mov (.t 0)⟩, []), (⟨some 25, none, .call (.c (.fn (.func 77) [] [])) [.t 24]⟩, [2]), (⟨some 26, none, .bsl false 38 4 1 (.struct [.struct [.int (.i64) 0, .str [], .nils], .int (.i64) 0]) [(0, .t 25)]⟩, [3]), (⟨some 27, none, .app 38 4 56 (.t 23) (.t 26)⟩, [1, 4, 3]), (⟨some 4, none, .mov (.t 27)⟩, [5, 5, 0, 1, 2, 3, 4, 5])]
def gR_rule_c8 : AC := .dreg gR_rule_c8_ops [22, 23, 24, 25, 26, 27]
theorem gR_rule_c8_ok : lexOK gR_rule_c8_ops (fun i => [5].contains i) = true := by kernel_rfl
theorem gR_rule_c8_lex (h : awLex PP (fun i => [5].contains i) (regK K [22, 23, 24, 25, 26, 27]) (panK K) [(0, ⟨some 22, none, .fa 1 1 (.t 3)⟩), (1, ⟨some 23, none, .ld false 1 (.t 22)⟩), (2, ⟨some 24, none, .mov (.t 0)⟩), (3, ⟨some 25, none, .call (.c (.fn (.func 77) [] [])) [.t 24]⟩), (4, ⟨some 26, none, .bsl false 38 4 1 (.struct [.struct [.int (.i64) 0, .str [], .nils], .int (.i64) 0]) [(0, .t 25)]⟩), (5, ⟨some 27, none, .app 38 4 56 (.t 23) (.t 26)⟩), (6, ⟨some 4, none, .mov (.t 27)⟩)] env H) : aw PP gR_rule_c8 K env H := aw_dreg_lex _ gR_rule_c8_ok h
theorem gR_rule_c8_okF : lexOKF gR_rule_c8_ops 5 (fun i => [3, 5].contains i) = true := by kernel_rfl
theorem gR_rule_c8_lexF (B : List Nat) (h : awLexF PP 5 (fun i => [3, 5].contains i) B H (regK K [22, 23, 24, 25, 26, 27]) (panK K) [(0, ⟨some 22, none, .fa 1 1 (.t 3)⟩), (1, ⟨some 23, none, .ld false 1 (.t 22)⟩), (2, ⟨some 24, none, .mov (.t 0)⟩), (3, ⟨some 25, none, .call (.c (.fn (.func 77) [] [])) [.t 24]⟩), (4, ⟨some 26, none, .bsl false 38 4 1 (.struct [.struct [.int (.i64) 0, .str [], .nils], .int (.i64) 0]) [(0, .t 25)]⟩), (5, ⟨some 27, none, .app 38 4 56 (.t 23) (.t 26)⟩), (6, ⟨some 4, none, .mov (.t 27)⟩)] env H) : aw PP gR_rule_c8 K env H := aw_dreg_lexF _ _ B gR_rule_c8_okF h
def gR_rule_c9 : AC := .reg [⟨some 28, none, .mov (.t 4)⟩, ⟨some 29, none, .fa 1 1 (.t 3)⟩, ⟨none, none, .st 1 (.t 29) (.t 28)⟩] [4, 28, 29]
@[simp] theorem gR_rule_c9_eq : aw PP gR_rule_c9 K env H = awOps PP [⟨some 28, none, .mov (.t 4)⟩, ⟨some 29, none, .fa 1 1 (.t 3)⟩, ⟨none, none, .st 1 (.t 29) (.t 28)⟩] (regK K [4, 28, 29]) (panK K) env H := aw_reg _ _
def gR_rule_c10 : AC := .seq gR_rule_c8 gR_rule_c9
@[simp] theorem gR_rule_c10_eq : aw PP gR_rule_c10 K env H = aw PP gR_rule_c8 (seqK PP gR_rule_c9 K) env H := aw_seq gR_rule_c8 gR_rule_c9
def gR_rule_c11 : AC := .seq gR_rule_c7 gR_rule_c10
@[simp] theorem gR_rule_c11_eq : aw PP gR_rule_c11 K env H = aw PP gR_rule_c7 (seqK PP gR_rule_c10 K) env H := aw_seq gR_rule_c7 gR_rule_c10
def gR_rule_c12 : AC := .block 1 gR_rule_c11
@[simp] theorem gR_rule_c12_eq : aw PP gR_rule_c12 K env H = aw PP gR_rule_c11 (blockK 1 K) env H := aw_block _ gR_rule_c11
def gR_rule_c13 : AC := .seq gR_rule_c6 gR_rule_c12
@[simp] theorem gR_rule_c13_eq : aw PP gR_rule_c13 K env H = aw PP gR_rule_c6 (seqK PP gR_rule_c12 K) env H := aw_seq gR_rule_c6 gR_rule_c12
def gR_rule_c14 : AC := .loop gR_rule_c13
def gR_rule_c15 : AC := .block 0 gR_rule_c14
@[simp] theorem gR_rule_c15_eq : aw PP gR_rule_c15 K env H = aw PP gR_rule_c14 (blockK 0 K) env H := aw_block _ gR_rule_c14
def gR_rule_c16 : AC := .reg [⟨some 30, none, .mov (.t 0)⟩, ⟨some 31, none, .call (.c (.fn (.func 49) [] [])) [.t 30, .c (.str [59])]⟩] [0, 19, 30, 31]
@[simp] theorem gR_rule_c16_eq : aw PP gR_rule_c16 K env H = awOps PP [⟨some 30, none, .mov (.t 0)⟩, ⟨some 31, none, .call (.c (.fn (.func 49) [] [])) [.t 30, .c (.str [59])]⟩] (regK K [0, 19, 30, 31]) (panK K) env H := aw_reg _ _
def gR_rule_c17 : AC := .reg [⟨some 32, none, .ld true 2 (.t 3)⟩, ⟨none, none, .st 2 (.t 2) (.t 32)⟩] [3, 32]
@[simp] theorem gR_rule_c17_eq : aw PP gR_rule_c17 K env H = awOps PP [⟨some 32, none, .ld true 2 (.t 3)⟩, ⟨none, none, .st 2 (.t 2) (.t 32)⟩] (regK K [3, 32]) (panK K) env H := aw_reg _ _
def gR_rule_c18 : AC := .seq gR_rule_c17 .ret
@[simp] theorem gR_rule_c18_eq : aw PP gR_rule_c18 K env H = aw PP gR_rule_c17 (seqK PP .ret K) env H := aw_seq gR_rule_c17 .ret
def gR_rule_c19 : AC := .seq gR_rule_c16 gR_rule_c18
@[simp] theorem gR_rule_c19_eq : aw PP gR_rule_c19 K env H = aw PP gR_rule_c16 (seqK PP gR_rule_c18 K) env H := aw_seq gR_rule_c16 gR_rule_c18
def gR_rule_c20 : AC := .seq gR_rule_c15 gR_rule_c19
@[simp] theorem gR_rule_c20_eq : aw PP gR_rule_c20 K env H = aw PP gR_rule_c15 (seqK PP gR_rule_c19 K) env H := aw_seq gR_rule_c15 gR_rule_c19
def gR_rule_c21 : AC := .seq gR_rule_c3 gR_rule_c20
@[simp] theorem gR_rule_c21_eq : aw PP gR_rule_c21 K env H = aw PP gR_rule_c3 (seqK PP gR_rule_c20 K) env H := aw_seq gR_rule_c3 gR_rule_c20
def gR_rule_c22 : AC := .seq gR_rule_c2 gR_rule_c21
@[simp] theorem gR_rule_c22_eq : aw PP gR_rule_c22 K env H = aw PP gR_rule_c2 (seqK PP gR_rule_c21 K) env H := aw_seq gR_rule_c2 gR_rule_c21
def gR_rule_c23 : AC := .seq gR_rule_c1 gR_rule_c22
@[simp] theorem gR_rule_c23_eq : aw PP gR_rule_c23 K env H = aw PP gR_rule_c1 (seqK PP gR_rule_c22 K) env H := aw_seq gR_rule_c1 gR_rule_c22
def gR_rule_c24 : AC := .seq gR_rule_c0 gR_rule_c23
@[simp] theorem gR_rule_c24_eq : aw PP gR_rule_c24 K env H = aw PP gR_rule_c0 (seqK PP gR_rule_c23 K) env H := aw_seq gR_rule_c0 gR_rule_c23
def gR_rule_ac : AC := gR_rule_c24
@[simp] theorem gR_rule_ac_eq : aw PP gR_rule_ac K env H = aw PP gR_rule_c24 K env H := Eq.trans rfl rfl
def gR_rule_rs : List ARV := [.cell 2 true 2]
abbrev gR_rule_id : Nat := 52
theorem gR_rule_comp : compF PP gR_rule_kl gR_rule_ow 1 Tryd.f52 = some (gR_rule_ac, gR_rule_rs) := by kernel_rfl
theorem gR_rule_enter {args : List AV} {H : AHeap} {post : ARes → AHeap → Prop} (ha : args.length = 1) (h : aw PP gR_rule_ac (retK gR_rule_rs post) (argEnv 0 args) H) : ACalls PP gR_rule_id args H post := .enterF Tryd.func52 PP_mix gR_rule_comp ha h

/-! slices.ContainsFunc[[]emendate.api.GAlternative,emendate.api.GAlternative] -/
def sC_GA_kl : Nat → List Nat
  | 0 => [4]
  | 1 => [0, 1, 5, 6, 7, 8]
  | _ => []
def sC_GA_ow : Nat → Nat → Bool := fun _ _ => false
def sC_GA_c0 : AC := .reg [⟨some 4, none, .mov (.c (.bool false))⟩] [4]
@[simp] theorem sC_GA_c0_eq : aw PP sC_GA_c0 K env H = awOps PP [⟨some 4, none, .mov (.c (.bool false))⟩] (regK K [4]) (panK K) env H := aw_reg _ _
def sC_GA_c1 : AC := .reg [⟨some 5, none, .mov (.t 0)⟩, ⟨some 6, none, .mov (.t 1)⟩, ⟨some 7, none, .call (.c (.fn (.func 78) [] [])) [.t 5, .t 6]⟩, ⟨some 8, none, .bin (.geq) (.t 7) (.c (.int (.i64) 0))⟩, ⟨some 4, none, .mov (.t 8)⟩] [0, 1, 5, 6, 7, 8]
@[simp] theorem sC_GA_c1_eq : aw PP sC_GA_c1 K env H = awOps PP [⟨some 5, none, .mov (.t 0)⟩, ⟨some 6, none, .mov (.t 1)⟩, ⟨some 7, none, .call (.c (.fn (.func 78) [] [])) [.t 5, .t 6]⟩, ⟨some 8, none, .bin (.geq) (.t 7) (.c (.int (.i64) 0))⟩, ⟨some 4, none, .mov (.t 8)⟩] (regK K [0, 1, 5, 6, 7, 8]) (panK K) env H := aw_reg _ _
def sC_GA_c2 : AC := .seq sC_GA_c1 .ret
@[simp] theorem sC_GA_c2_eq : aw PP sC_GA_c2 K env H = aw PP sC_GA_c1 (seqK PP .ret K) env H := aw_seq sC_GA_c1 .ret
def sC_GA_c3 : AC := .seq sC_GA_c0 sC_GA_c2
@[simp] theorem sC_GA_c3_eq : aw PP sC_GA_c3 K env H = aw PP sC_GA_c0 (seqK PP sC_GA_c2 K) env H := aw_seq sC_GA_c0 sC_GA_c2
def sC_GA_ac : AC := sC_GA_c3
@[simp] theorem sC_GA_ac_eq : aw PP sC_GA_ac K env H = aw PP sC_GA_c3 K env H := Eq.trans rfl rfl
def sC_GA_rs : List ARV := [.tmp 4]
abbrev sC_GA_id : Nat := 53
theorem sC_GA_comp : compF PP sC_GA_kl sC_GA_ow 2 Tryd.f53 = some (sC_GA_ac, sC_GA_rs) := by kernel_rfl
theorem sC_GA_enter {args : List AV} {H : AHeap} {post : ARes → AHeap → Prop} (ha : args.length = 2) (h : aw PP sC_GA_ac (retK sC_GA_rs post) (argEnv 0 args) H) : ACalls PP sC_GA_id args H post := .enterF Tryd.func53 PP_mix sC_GA_comp ha h

/-! emendate.grammarfile.rule$1 -/
def gF_rule_1_kl : Nat → List Nat
  | 0 => [0, 2]
  | 1 => [1, 3, 4, 5, 6, 7, 8, 9, 10, 11, 12, 13, 14, 15, 16]
  | _ => []
def gF_rule_1_ow : Nat → Nat → Bool := fun _ _ => false
def gF_rule_1_c0 : AC := .reg [⟨some 1, none, .box (.t 0) 4 38⟩, ⟨some 2, none, .mov (.c (.bool false))⟩] [0, 2]
@[simp] theorem gF_rule_1_c0_eq : aw PP gF_rule_1_c0 K env H = awOps PP [⟨some 1, none, .box (.t 0) 4 38⟩, ⟨some 2, none, .mov (.c (.bool false))⟩] (regK K [0, 2]) (panK K) env H := aw_reg _ _
def gF_rule_1_c1 : AC := .reg [⟨some 3, none, .fa 1 3 (.t 1)⟩, ⟨some 4, none, .ld false 1 (.t 3)⟩, ⟨some 5, none, .bin (.lss) (.t 4) (.c (.int (.i64) 0))⟩, ⟨some 6, none, .mov (.t 5)⟩, ⟨some 7, some (6, false), .fa 1 3 (.t 1)⟩, ⟨some 8, some (6, false), .ld false 1 (.t 7)⟩, ⟨some 9, some (6, false), .bin (.gtr) (.t 8) (.c (.int (.i64) 1000))⟩, ⟨some 10, none, .pick (.t 6) (.c (.bool true)) (.t 9)⟩, ⟨some 11, none, .mov (.t 10)⟩, ⟨some 12, some (11, false), .fa 0 0 (.t 1)⟩, ⟨some 13, some (11, false), .ld true 3 (.t 12)⟩, ⟨some 14, some (11, false), .call (.c (.fn (.func 55) [] [])) [.t 13, .c (.int (.i64) 30)]⟩, ⟨some 15, some (11, false), .not (.t 14)⟩, ⟨some 16, none, .pick (.t 11) (.c (.bool true)) (.t 15)⟩, ⟨some 2, none, .mov (.t 16)⟩] [1, 3, 4, 5, 6, 7, 8, 9, 10, 11, 12, 13, 14, 15, 16]
@[simp] theorem gF_rule_1_c1_eq : aw PP gF_rule_1_c1 K env H = awOps PP [⟨some 3, none, .fa 1 3 (.t 1)⟩, ⟨some 4, none, .ld false 1 (.t 3)⟩, ⟨some 5, none, .bin (.lss) (.t 4) (.c (.int (.i64) 0))⟩, ⟨some 6, none, .mov (.t 5)⟩, ⟨some 7, some (6, false), .fa 1 3 (.t 1)⟩, ⟨some 8, some (6, false), .ld false 1 (.t 7)⟩, ⟨some 9, some (6, false), .bin (.gtr) (.t 8) (.c (.int (.i64) 1000))⟩, ⟨some 10, none, .pick (.t 6) (.c (.bool true)) (.t 9)⟩, ⟨some 11, none, .mov (.t 10)⟩, ⟨some 12, some (11, false), .fa 0 0 (.t 1)⟩, ⟨some 13, some (11, false), .ld true 3 (.t 12)⟩, ⟨some 14, some (11, false), .call (.c (.fn (.func 55) [] [])) [.t 13, .c (.int (.i64) 30)]⟩, ⟨some 15, some (11, false), .not (.t 14)⟩, ⟨some 16, none, .pick (.t 11) (.c (.bool true)) (.t 15)⟩, ⟨some 2, none, .mov (.t 16)⟩] (regK K [1, 3, 4, 5, 6, 7, 8, 9, 10, 11, 12, 13, 14, 15, 16]) (panK K) env H := aw_reg _ _
def gF_rule_1_c2 : AC := .seq gF_rule_1_c1 .ret
@[simp] theorem gF_rule_1_c2_eq : aw PP gF_rule_1_c2 K env H = aw PP gF_rule_1_c1 (seqK PP .ret K) env H := aw_seq gF_rule_1_c1 .ret
def gF_rule_1_c3 : AC := .seq gF_rule_1_c0 gF_rule_1_c2
@[simp] theorem gF_rule_1_c3_eq : aw PP gF_rule_1_c3 K env H = aw PP gF_rule_1_c0 (seqK PP gF_rule_1_c2 K) env H := aw_seq gF_rule_1_c0 gF_rule_1_c2
def gF_rule_1_ac : AC := gF_rule_1_c3
@[simp] theorem gF_rule_1_ac_eq : aw PP gF_rule_1_ac K env H = aw PP gF_rule_1_c3 K env H := Eq.trans rfl rfl
def gF_rule_1_rs : List ARV := [.tmp 2]
abbrev gF_rule_1_id : Nat := 54
theorem gF_rule_1_comp : compF PP gF_rule_1_kl gF_rule_1_ow 1 Tryd.f54 = some (gF_rule_1_ac, gF_rule_1_rs) := by kernel_rfl
theorem gF_rule_1_enter {args : List AV} {H : AHeap} {post : ARes → AHeap → Prop} (ha : args.length = 1) (h : aw PP gF_rule_1_ac (retK gF_rule_1_rs post) (argEnv 0 args) H) : ACalls PP gF_rule_1_id args H post := .enterF Tryd.func54 PP_mix gF_rule_1_comp ha h

/-! emendate.grammarfile.expr -/
def gF_expr_kl : Nat → List Nat
  | 0 => [0, 1, 4]
  | 1 => [7, 8, 9, 10, 11, 12, 13, 14, 15, 16, 17]
  | 2 => [2, 3, 18]
  | 3 => [18, 19, 20, 21]
  | 4 => [22]
  | 5 => [25]
  | 6 => [5, 23, 24, 26, 27, 28, 29, 30, 31, 32]
  | 7 => [24, 34]
  | 8 => [5, 23, 33, 35, 36]
  | 9 => [33, 38]
  | 10 => [5, 23, 37, 39, 40]
  | 11 => [37, 42]
  | 12 => [43]
  | 13 => [23, 44]
  | 14 => [5, 23, 41, 45, 46]
  | 15 => [2, 3, 5, 6, 23, 41, 47, 48, 49, 50, 51, 52, 53, 54]
  | _ => []
def gF_expr_ow : Nat → Nat → Bool := fun _ _ => false
def gF_expr_c0 : AC := .reg [⟨some 2, none, .box (.t 0) 3 33⟩, ⟨some 3, none, .box (.t 1) 1 3⟩, ⟨some 4, none, .mov (.c (.bool false))⟩] [0, 1, 4]
@[simp] theorem gF_expr_c0_eq : aw PP gF_expr_c0 K env H = awOps PP [⟨some 2, none, .box (.t 0) 3 33⟩, ⟨some 3, none, .box (.t 1) 1 3⟩, ⟨some 4, none, .mov (.c (.bool false))⟩] (regK K [0, 1, 4]) (panK K) env H := aw_reg _ _
def gF_expr_c1 : AC := .reg [⟨some 7, none, .ld false 1 (.t 3)⟩, ⟨some 8, none, .bin (.lss) (.t 7) (.c (.int (.i64) 1))⟩, ⟨some 9, none, .mov (.t 8)⟩, ⟨some 10, some (9, false), .fa 0 0 (.t 2)⟩, ⟨some 11, some (9, false), .ld false 1 (.t 10)⟩, ⟨some 12, some (9, false), .bin (.neq) (.t 11) (.c (.int (.i64) 1))⟩, ⟨some 13, some (9, false), .mov (.t 12)⟩, ⟨some 14, some (13, true), .fa 1 1 (.t 2)⟩, ⟨some 15, some (13, true), .ld false 1 (.t 14)⟩, ⟨some 16, some (13, true), .bin (.neq) (.t 15) (.c (.str []))⟩, ⟨some 17, some (9, false), .pick (.t 13) (.t 16) (.c (.bool false))⟩, ⟨some 18, none, .pick (.t 9) (.c (.bool true)) (.t 17)⟩] [7, 8, 9, 10, 11, 12, 13, 14, 15, 16, 17]
@[simp] theorem gF_expr_c1_eq : aw PP gF_expr_c1 K env H = awOps PP [⟨some 7, none, .ld false 1 (.t 3)⟩, ⟨some 8, none, .bin (.lss) (.t 7) (.c (.int (.i64) 1))⟩, ⟨some 9, none, .mov (.t 8)⟩, ⟨some 10, some (9, false), .fa 0 0 (.t 2)⟩, ⟨some 11, some (9, false), .ld false 1 (.t 10)⟩, ⟨some 12, some (9, false), .bin (.neq) (.t 11) (.c (.int (.i64) 1))⟩, ⟨some 13, some (9, false), .mov (.t 12)⟩, ⟨some 14, some (13, true), .fa 1 1 (.t 2)⟩, ⟨some 15, some (13, true), .ld false 1 (.t 14)⟩, ⟨some 16, some (13, true), .bin (.neq) (.t 15) (.c (.str []))⟩, ⟨some 17, some (9, false), .pick (.t 13) (.t 16) (.c (.bool false))⟩, ⟨some 18, none, .pick (.t 9) (.c (.bool true)) (.t 17)⟩] (regK K [7, 8, 9, 10, 11, 12, 13, 14, 15, 16, 17]) (panK K) env H := aw_reg _ _
def gF_expr_c2 : AC := .reg [⟨some 4, none, .mov (.c (.bool false))⟩] [2, 3, 18]
@[simp] theorem gF_expr_c2_eq : aw PP gF_expr_c2 K env H = awOps PP [⟨some 4, none, .mov (.c (.bool false))⟩] (regK K [2, 3, 18]) (panK K) env H := aw_reg _ _
def gF_expr_c3 : AC := .seq gF_expr_c2 .ret
@[simp] theorem gF_expr_c3_eq : aw PP gF_expr_c3 K env H = aw PP gF_expr_c2 (seqK PP .ret K) env H := aw_seq gF_expr_c2 .ret
def gF_expr_c4 : AC := .cond (.t 18) gF_expr_c3 .skip
@[simp] theorem gF_expr_c4_eq : aw PP gF_expr_c4 K env H = condQ PP (Opd.ev env (.t 18)) gF_expr_c3 .skip K env H := aw_cond _ gF_expr_c3 .skip
def gF_expr_c5 : AC := .seq gF_expr_c1 gF_expr_c4
@[simp] theorem gF_expr_c5_eq : aw PP gF_expr_c5 K env H = aw PP gF_expr_c1 (seqK PP gF_expr_c4 K) env H := aw_seq gF_expr_c1 gF_expr_c4
def gF_expr_c6 : AC := .reg [⟨some 19, none, .fa 2 2 (.t 2)⟩, ⟨some 20, none, .ld false 1 (.t 19)⟩, ⟨some 21, none, .lenl (.t 20)⟩, ⟨some 5, none, .mov (.t 21)⟩, ⟨some 6, none, .mov (.c (.bool false))⟩] [18, 19, 20, 21]
@[simp] theorem gF_expr_c6_eq : aw PP gF_expr_c6 K env H = awOps PP [⟨some 19, none, .fa 2 2 (.t 2)⟩, ⟨some 20, none, .ld false 1 (.t 19)⟩, ⟨some 21, none, .lenl (.t 20)⟩, ⟨some 5, none, .mov (.t 21)⟩, ⟨some 6, none, .mov (.c (.bool false))⟩] (regK K [18, 19, 20, 21]) (panK K) env H := aw_reg _ _
def gF_expr_c7 : AC := .reg [⟨some 22, none, .fa 0 0 (.t 2)⟩, ⟨some 23, none, .ld false 1 (.t 22)⟩] [22]
@[simp] theorem gF_expr_c7_eq : aw PP gF_expr_c7 K env H = awOps PP [⟨some 22, none, .fa 0 0 (.t 2)⟩, ⟨some 23, none, .ld false 1 (.t 22)⟩] (regK K [22]) (panK K) env H := aw_reg _ _
def gF_expr_c8 : AC := .reg [⟨some 25, none, .bin (.eql) (.t 23) (.c (.int (.i64) 1))⟩, ⟨some 24, none, .mov (.t 25)⟩] [25]
@[simp] theorem gF_expr_c8_eq : aw PP gF_expr_c8 K env H = awOps PP [⟨some 25, none, .bin (.eql) (.t 23) (.c (.int (.i64) 1))⟩, ⟨some 24, none, .mov (.t 25)⟩] (regK K [25]) (panK K) env H := aw_reg _ _
def gF_expr_c9 : AC := .reg [⟨some 26, none, .fa 1 1 (.t 2)⟩, ⟨some 27, none, .ld false 1 (.t 26)⟩, ⟨some 28, none, .call (.c (.fn (.func 56) [] [])) [.t 27]⟩, ⟨some 29, none, .mov (.t 28)⟩, ⟨some 30, some (29, true), .mov (.t 5)⟩, ⟨some 31, some (29, true), .bin (.eql) (.t 30) (.c (.int (.i64) 0))⟩, ⟨some 32, none, .pick (.t 29) (.t 31) (.c (.bool false))⟩, ⟨some 6, none, .mov (.t 32)⟩] [5, 23, 24, 26, 27, 28, 29, 30, 31, 32]
@[simp] theorem gF_expr_c9_eq : aw PP gF_expr_c9 K env H = awOps PP [⟨some 26, none, .fa 1 1 (.t 2)⟩, ⟨some 27, none, .ld false 1 (.t 26)⟩, ⟨some 28, none, .call (.c (.fn (.func 56) [] [])) [.t 27]⟩, ⟨some 29, none, .mov (.t 28)⟩, ⟨some 30, some (29, true), .mov (.t 5)⟩, ⟨some 31, some (29, true), .bin (.eql) (.t 30) (.c (.int (.i64) 0))⟩, ⟨some 32, none, .pick (.t 29) (.t 31) (.c (.bool false))⟩, ⟨some 6, none, .mov (.t 32)⟩] (regK K [5, 23, 24, 26, 27, 28, 29, 30, 31, 32]) (panK K) env H := aw_reg _ _
def gF_expr_c10 : AC := .reg [⟨some 34, none, .bin (.eql) (.t 23) (.c (.int (.i64) 2))⟩, ⟨some 33, none, .mov (.t 34)⟩] [24, 34]
@[simp] theorem gF_expr_c10_eq : aw PP gF_expr_c10 K env H = awOps PP [⟨some 34, none, .bin (.eql) (.t 23) (.c (.int (.i64) 2))⟩, ⟨some 33, none, .mov (.t 34)⟩] (regK K [24, 34]) (panK K) env H := aw_reg _ _
def gF_expr_c11 : AC := .reg [⟨some 35, none, .mov (.t 5)⟩, ⟨some 36, none, .bin (.neq) (.t 35) (.c (.int (.i64) 1))⟩, ⟨some 6, none, .mov (.t 36)⟩] [5, 23, 33, 35, 36]
@[simp] theorem gF_expr_c11_eq : aw PP gF_expr_c11 K env H = awOps PP [⟨some 35, none, .mov (.t 5)⟩, ⟨some 36, none, .bin (.neq) (.t 35) (.c (.int (.i64) 1))⟩, ⟨some 6, none, .mov (.t 36)⟩] (regK K [5, 23, 33, 35, 36]) (panK K) env H := aw_reg _ _
def gF_expr_c12 : AC := .reg [⟨some 38, none, .bin (.eql) (.t 23) (.c (.int (.i64) 3))⟩, ⟨some 37, none, .mov (.t 38)⟩] [33, 38]
@[simp] theorem gF_expr_c12_eq : aw PP gF_expr_c12 K env H = awOps PP [⟨some 38, none, .bin (.eql) (.t 23) (.c (.int (.i64) 3))⟩, ⟨some 37, none, .mov (.t 38)⟩] (regK K [33, 38]) (panK K) env H := aw_reg _ _
def gF_expr_c13 : AC := .reg [⟨some 39, none, .mov (.t 5)⟩, ⟨some 40, none, .bin (.geq) (.t 39) (.c (.int (.i64) 2))⟩, ⟨some 6, none, .mov (.t 40)⟩] [5, 23, 37, 39, 40]
@[simp] theorem gF_expr_c13_eq : aw PP gF_expr_c13 K env H = awOps PP [⟨some 39, none, .mov (.t 5)⟩, ⟨some 40, none, .bin (.geq) (.t 39) (.c (.int (.i64) 2))⟩, ⟨some 6, none, .mov (.t 40)⟩] (regK K [5, 23, 37, 39, 40]) (panK K) env H := aw_reg _ _
def gF_expr_c14 : AC := .reg [⟨some 42, none, .bin (.eql) (.t 23) (.c (.int (.i64) 4))⟩, ⟨some 41, none, .mov (.t 42)⟩] [37, 42]
@[simp] theorem gF_expr_c14_eq : aw PP gF_expr_c14 K env H = awOps PP [⟨some 42, none, .bin (.eql) (.t 23) (.c (.int (.i64) 4))⟩, ⟨some 41, none, .mov (.t 42)⟩] (regK K [37, 42]) (panK K) env H := aw_reg _ _
def gF_expr_c15 : AC := .reg [⟨some 43, none, .bin (.eql) (.t 23) (.c (.int (.i64) 5))⟩, ⟨some 41, none, .mov (.t 43)⟩] [43]
@[simp] theorem gF_expr_c15_eq : aw PP gF_expr_c15 K env H = awOps PP [⟨some 43, none, .bin (.eql) (.t 23) (.c (.int (.i64) 5))⟩, ⟨some 41, none, .mov (.t 43)⟩] (regK K [43]) (panK K) env H := aw_reg _ _
def gF_expr_c16 : AC := .reg [⟨some 44, none, .bin (.eql) (.t 23) (.c (.int (.i64) 6))⟩, ⟨some 41, none, .mov (.t 44)⟩] [23, 44]
@[simp] theorem gF_expr_c16_eq : aw PP gF_expr_c16 K env H = awOps PP [⟨some 44, none, .bin (.eql) (.t 23) (.c (.int (.i64) 6))⟩, ⟨some 41, none, .mov (.t 44)⟩] (regK K [23, 44]) (panK K) env H := aw_reg _ _
def gF_expr_c17 : AC := .cond (.t 41) .skip gF_expr_c16
@[simp] theorem gF_expr_c17_eq : aw PP gF_expr_c17 K env H = condQ PP (Opd.ev env (.t 41)) .skip gF_expr_c16 K env H := aw_cond _ .skip gF_expr_c16
def gF_expr_c18 : AC := .seq gF_expr_c15 gF_expr_c17
@[simp] theorem gF_expr_c18_eq : aw PP gF_expr_c18 K env H = aw PP gF_expr_c15 (seqK PP gF_expr_c17 K) env H := aw_seq gF_expr_c15 gF_expr_c17
def gF_expr_c19 : AC := .cond (.t 41) .skip gF_expr_c18
@[simp] theorem gF_expr_c19_eq : aw PP gF_expr_c19 K env H = condQ PP (Opd.ev env (.t 41)) .skip gF_expr_c18 K env H := aw_cond _ .skip gF_expr_c18
def gF_expr_c20 : AC := .seq gF_expr_c14 gF_expr_c19
@[simp] theorem gF_expr_c20_eq : aw PP gF_expr_c20 K env H = aw PP gF_expr_c14 (seqK PP gF_expr_c19 K) env H := aw_seq gF_expr_c14 gF_expr_c19
def gF_expr_c21 : AC := .reg [⟨some 45, none, .mov (.t 5)⟩, ⟨some 46, none, .bin (.eql) (.t 45) (.c (.int (.i64) 1))⟩, ⟨some 6, none, .mov (.t 46)⟩] [5, 23, 41, 45, 46]
@[simp] theorem gF_expr_c21_eq : aw PP gF_expr_c21 K env H = awOps PP [⟨some 45, none, .mov (.t 5)⟩, ⟨some 46, none, .bin (.eql) (.t 45) (.c (.int (.i64) 1))⟩, ⟨some 6, none, .mov (.t 46)⟩] (regK K [5, 23, 41, 45, 46]) (panK K) env H := aw_reg _ _
def gF_expr_c22 : AC := .cond (.t 41) gF_expr_c21 .skip
@[simp] theorem gF_expr_c22_eq : aw PP gF_expr_c22 K env H = condQ PP (Opd.ev env (.t 41)) gF_expr_c21 .skip K env H := aw_cond _ gF_expr_c21 .skip
def gF_expr_c23 : AC := .seq gF_expr_c20 gF_expr_c22
@[simp] theorem gF_expr_c23_eq : aw PP gF_expr_c23 K env H = aw PP gF_expr_c20 (seqK PP gF_expr_c22 K) env H := aw_seq gF_expr_c20 gF_expr_c22
def gF_expr_c24 : AC := .cond (.t 37) gF_expr_c13 gF_expr_c23
@[simp] theorem gF_expr_c24_eq : aw PP gF_expr_c24 K env H = condQ PP (Opd.ev env (.t 37)) gF_expr_c13 gF_expr_c23 K env H := aw_cond _ gF_expr_c13 gF_expr_c23
def gF_expr_c25 : AC := .seq gF_expr_c12 gF_expr_c24
@[simp] theorem gF_expr_c25_eq : aw PP gF_expr_c25 K env H = aw PP gF_expr_c12 (seqK PP gF_expr_c24 K) env H := aw_seq gF_expr_c12 gF_expr_c24
def gF_expr_c26 : AC := .cond (.t 33) gF_expr_c11 gF_expr_c25
@[simp] theorem gF_expr_c26_eq : aw PP gF_expr_c26 K env H = condQ PP (Opd.ev env (.t 33)) gF_expr_c11 gF_expr_c25 K env H := aw_cond _ gF_expr_c11 gF_expr_c25
def gF_expr_c27 : AC := .seq gF_expr_c10 gF_expr_c26
@[simp] theorem gF_expr_c27_eq : aw PP gF_expr_c27 K env H = aw PP gF_expr_c10 (seqK PP gF_expr_c26 K) env H := aw_seq gF_expr_c10 gF_expr_c26
def gF_expr_c28 : AC := .cond (.t 24) gF_expr_c9 gF_expr_c27
@[simp] theorem gF_expr_c28_eq : aw PP gF_expr_c28 K env H = condQ PP (Opd.ev env (.t 24)) gF_expr_c9 gF_expr_c27 K env H := aw_cond _ gF_expr_c9 gF_expr_c27
def gF_expr_c29 : AC := .seq gF_expr_c8 gF_expr_c28
@[simp] theorem gF_expr_c29_eq : aw PP gF_expr_c29 K env H = aw PP gF_expr_c8 (seqK PP gF_expr_c28 K) env H := aw_seq gF_expr_c8 gF_expr_c28
def gF_expr_c30 : AC := .block 0 gF_expr_c29
@[simp] theorem gF_expr_c30_eq : aw PP gF_expr_c30 K env H = aw PP gF_expr_c29 (blockK 0 K) env H := aw_block _ gF_expr_c29
def gF_expr_c31 : AC := .seq gF_expr_c7 gF_expr_c30
@[simp] theorem gF_expr_c31_eq : aw PP gF_expr_c31 K env H = aw PP gF_expr_c7 (seqK PP gF_expr_c30 K) env H := aw_seq gF_expr_c7 gF_expr_c30
def gF_expr_c32 : AC := .reg [⟨some 47, none, .mov (.t 6)⟩, ⟨some 48, none, .mov (.t 47)⟩, ⟨some 49, some (48, true), .fa 2 2 (.t 2)⟩, ⟨some 50, some (48, true), .ld false 1 (.t 49)⟩, ⟨some 51, some (48, true), .mkfn (.func 80) [] [.t 3]⟩, ⟨some 52, some (48, true), .call (.c (.fn (.func 79) [] [])) [.t 50, .t 51]⟩, ⟨some 53, some (48, true), .not (.t 52)⟩, ⟨some 54, none, .pick (.t 48) (.t 53) (.c (.bool false))⟩, ⟨some 4, none, .mov (.t 54)⟩] [2, 3, 5, 6, 23, 41, 47, 48, 49, 50, 51, 52, 53, 54]
@[simp] theorem gF_expr_c32_eq : aw PP gF_expr_c32 K env H = awOps PP [⟨some 47, none, .mov (.t 6)⟩, ⟨some 48, none, .mov (.t 47)⟩, ⟨some 49, some (48, true), .fa 2 2 (.t 2)⟩, ⟨some 50, some (48, true), .ld false 1 (.t 49)⟩, ⟨some 51, some (48, true), .mkfn (.func 80) [] [.t 3]⟩, ⟨some 52, some (48, true), .call (.c (.fn (.func 79) [] [])) [.t 50, .t 51]⟩, ⟨some 53, some (48, true), .not (.t 52)⟩, ⟨some 54, none, .pick (.t 48) (.t 53) (.c (.bool false))⟩, ⟨some 4, none, .mov (.t 54)⟩] (regK K [2, 3, 5, 6, 23, 41, 47, 48, 49, 50, 51, 52, 53, 54]) (panK K) env H := aw_reg _ _
def gF_expr_c33 : AC := .seq gF_expr_c32 .ret
@[simp] theorem gF_expr_c33_eq : aw PP gF_expr_c33 K env H = aw PP gF_expr_c32 (seqK PP .ret K) env H := aw_seq gF_expr_c32 .ret
def gF_expr_c34 : AC := .seq gF_expr_c31 gF_expr_c33
@[simp] theorem gF_expr_c34_eq : aw PP gF_expr_c34 K env H = aw PP gF_expr_c31 (seqK PP gF_expr_c33 K) env H := aw_seq gF_expr_c31 gF_expr_c33
def gF_expr_c35 : AC := .seq gF_expr_c6 gF_expr_c34
@[simp] theorem gF_expr_c35_eq : aw PP gF_expr_c35 K env H = aw PP gF_expr_c6 (seqK PP gF_expr_c34 K) env H := aw_seq gF_expr_c6 gF_expr_c34
def gF_expr_c36 : AC := .seq gF_expr_c5 gF_expr_c35
@[simp] theorem gF_expr_c36_eq : aw PP gF_expr_c36 K env H = aw PP gF_expr_c5 (seqK PP gF_expr_c35 K) env H := aw_seq gF_expr_c5 gF_expr_c35
def gF_expr_c37 : AC := .seq gF_expr_c0 gF_expr_c36
@[simp] theorem gF_expr_c37_eq : aw PP gF_expr_c37 K env H = aw PP gF_expr_c0 (seqK PP gF_expr_c36 K) env H := aw_seq gF_expr_c0 gF_expr_c36
def gF_expr_ac : AC := gF_expr_c37
@[simp] theorem gF_expr_ac_eq : aw PP gF_expr_ac K env H = aw PP gF_expr_c37 K env H := Eq.trans rfl rfl
def gF_expr_rs : List ARV := [.tmp 4]
abbrev gF_expr_id : Nat := 55
theorem gF_expr_comp : compF PP gF_expr_kl gF_expr_ow 2 Tryd.f55 = some (gF_expr_ac, gF_expr_rs) := by kernel_rfl
theorem gF_expr_enter {args : List AV} {H : AHeap} {post : ARes → AHeap → Prop} (ha : args.length = 2) (h : aw PP gF_expr_ac (retK gF_expr_rs post) (argEnv 0 args) H) : ACalls PP gF_expr_id args H post := .enterF Tryd.func55 PP_mix gF_expr_comp ha h

/-! emendate.grammarfile.name -/
def gF_name_kl : Nat → List Nat
  | 0 => [2]
  | 1 => [4, 5, 6, 7, 8, 9, 10, 11, 12, 13, 14, 15, 16, 17, 18, 19, 20]
  | 2 => [0, 21]
  | 3 => [21, 22]
  | 5 => [25, 26]
  | 6 => [3, 27, 28, 29, 30, 31, 32, 33, 34, 35, 36, 37, 38, 39, 40, 41, 42, 43, 44, 45, 46, 47, 48, 49]
  | 7 => [0, 23, 24, 50]
  | 8 => [50, 51]
  | 9 => [0, 23, 24, 25]
  | _ => []
def gF_name_ow : Nat → Nat → Bool := fun _ _ => false
def gF_name_c0 : AC := .reg [⟨some 2, none, .mov (.c (.bool false))⟩] [2]
@[simp] theorem gF_name_c0_eq : aw PP gF_name_c0 K env H = awOps PP [⟨some 2, none, .mov (.c (.bool false))⟩] (regK K [2]) (panK K) env H := aw_reg _ _
def gF_name_c1 : AC := .reg [⟨some 4, none, .mov (.t 0)⟩, ⟨some 5, none, .bin (.eql) (.t 4) (.c (.str []))⟩, ⟨some 6, none, .mov (.t 5)⟩, ⟨some 7, some (6, false), .mov (.t 0)⟩, ⟨some 8, some (6, false), .lens (.t 7)⟩, ⟨some 9, some (6, false), .bin (.gtr) (.t 8) (.c (.int (.i64) 24))⟩, ⟨some 10, none, .pick (.t 6) (.c (.bool true)) (.t 9)⟩, ⟨some 11, none, .mov (.t 10)⟩, ⟨some 12, some (11, false), .mov (.t 0)⟩, ⟨some 13, some (11, false), .ix (.t 12) (.c (.int (.i64) 0))⟩, ⟨some 14, some (11, false), .call (.c (.fn (.func 81) [] [])) [.t 13]⟩, ⟨some 15, some (11, false), .not (.t 14)⟩, ⟨some 16, none, .pick (.t 11) (.c (.bool true)) (.t 15)⟩, ⟨some 17, none, .mov (.t 16)⟩, ⟨some 18, some (17, false), .bsl false 9 1 5 (.str []) [(0, .c (.str [115, 116, 97, 114, 116])), (1, .c (.str [108, 101, 102, 116])), (2, .c (.str [114, 105, 103, 104, 116])), (3, .c (.str [110, 111, 110, 101])), (4, .c (.str [112, 114, 105, 99, 101]))]⟩, ⟨some 19, some (17, false), .mov (.t 0)⟩, ⟨some 20, some (17, false), .call (.c (.fn (.func 27) [] [])) [.t 18, .t 19]⟩, ⟨some 21, none, .pick (.t 17) (.c (.bool true)) (.t 20)⟩] [4, 5, 6, 7, 8, 9, 10, 11, 12, 13, 14, 15, 16, 17, 18, 19, 20]
@[simp] theorem gF_name_c1_eq : aw PP gF_name_c1 K env H = awOps PP [⟨some 4, none, .mov (.t 0)⟩, ⟨some 5, none, .bin (.eql) (.t 4) (.c (.str []))⟩, ⟨some 6, none, .mov (.t 5)⟩, ⟨some 7, some (6, false), .mov (.t 0)⟩, ⟨some 8, some (6, false), .lens (.t 7)⟩, ⟨some 9, some (6, false), .bin (.gtr) (.t 8) (.c (.int (.i64) 24))⟩, ⟨some 10, none, .pick (.t 6) (.c (.bool true)) (.t 9)⟩, ⟨some 11, none, .mov (.t 10)⟩, ⟨some 12, some (11, false), .mov (.t 0)⟩, ⟨some 13, some (11, false), .ix (.t 12) (.c (.int (.i64) 0))⟩, ⟨some 14, some (11, false), .call (.c (.fn (.func 81) [] [])) [.t 13]⟩, ⟨some 15, some (11, false), .not (.t 14)⟩, ⟨some 16, none, .pick (.t 11) (.c (.bool true)) (.t 15)⟩, ⟨some 17, none, .mov (.t 16)⟩, ⟨some 18, some (17, false), .bsl false 9 1 5 (.str []) [(0, .c (.str [115, 116, 97, 114, 116])), (1, .c (.str [108, 101, 102, 116])), (2, .c (.str [114, 105, 103, 104, 116])), (3, .c (.str [110, 111, 110, 101])), (4, .c (.str [112, 114, 105, 99, 101]))]⟩, ⟨some 19, some (17, false), .mov (.t 0)⟩, ⟨some 20, some (17, false), .call (.c (.fn (.func 27) [] [])) [.t 18, .t 19]⟩, ⟨some 21, none, .pick (.t 17) (.c (.bool true)) (.t 20)⟩] (regK K [4, 5, 6, 7, 8, 9, 10, 11, 12, 13, 14, 15, 16, 17, 18, 19, 20]) (panK K) env H := aw_reg _ _
def gF_name_c2 : AC := .reg [⟨some 2, none, .mov (.c (.bool false))⟩] [0, 21]
@[simp] theorem gF_name_c2_eq : aw PP gF_name_c2 K env H = awOps PP [⟨some 2, none, .mov (.c (.bool false))⟩] (regK K [0, 21]) (panK K) env H := aw_reg _ _
def gF_name_c3 : AC := .seq gF_name_c2 .ret
@[simp] theorem gF_name_c3_eq : aw PP gF_name_c3 K env H = aw PP gF_name_c2 (seqK PP .ret K) env H := aw_seq gF_name_c2 .ret
def gF_name_c4 : AC := .cond (.t 21) gF_name_c3 .skip
@[simp] theorem gF_name_c4_eq : aw PP gF_name_c4 K env H = condQ PP (Opd.ev env (.t 21)) gF_name_c3 .skip K env H := aw_cond _ gF_name_c3 .skip
def gF_name_c5 : AC := .seq gF_name_c1 gF_name_c4
@[simp] theorem gF_name_c5_eq : aw PP gF_name_c5 K env H = aw PP gF_name_c1 (seqK PP gF_name_c4 K) env H := aw_seq gF_name_c1 gF_name_c4
def gF_name_c6 : AC := .reg [⟨some 22, none, .mov (.t 0)⟩, ⟨some 23, none, .lens (.t 22)⟩, ⟨some 24, none, .mov (.c (.int (.i64) 0))⟩] [21, 22]
@[simp] theorem gF_name_c6_eq : aw PP gF_name_c6 K env H = awOps PP [⟨some 22, none, .mov (.t 0)⟩, ⟨some 23, none, .lens (.t 22)⟩, ⟨some 24, none, .mov (.c (.int (.i64) 0))⟩] (regK K [21, 22]) (panK K) env H := aw_reg _ _
def gF_name_c7 : AC := .reg [⟨some 25, none, .bin (.lss) (.t 24) (.t 23)⟩] []
@[simp] theorem gF_name_c7_eq : aw PP gF_name_c7 K env H = awOps PP [⟨some 25, none, .bin (.lss) (.t 24) (.t 23)⟩] (regK K []) (panK K) env H := aw_reg _ _
def gF_name_c8 : AC := .cond (.t 25) .skip (.exit 0)
@[simp] theorem gF_name_c8_eq : aw PP gF_name_c8 K env H = condQ PP (Opd.ev env (.t 25)) .skip (.exit 0) K env H := aw_cond _ .skip (.exit 0)
def gF_name_c9 : AC := .reg [⟨some 26, none, .mov (.t 24)⟩, ⟨some 3, none, .mov (.t 26)⟩] [25, 26]
@[simp] theorem gF_name_c9_eq : aw PP gF_name_c9 K env H = awOps PP [⟨some 26, none, .mov (.t 24)⟩, ⟨some 3, none, .mov (.t 26)⟩] (regK K [25, 26]) (panK K) env H := aw_reg _ _
def gF_name_c10 : AC := .reg [⟨some 27, none, .mov (.t 0)⟩, ⟨some 28, none, .mov (.t 3)⟩, ⟨some 29, none, .ix (.t 27) (.t 28)⟩, ⟨some 30, none, .call (.c (.fn (.func 81) [] [])) [.t 29]⟩, ⟨some 31, none, .not (.t 30)⟩, ⟨some 32, none, .mov (.t 31)⟩, ⟨some 33, some (32, true), .mov (.t 0)⟩, ⟨some 34, some (32, true), .mov (.t 3)⟩, ⟨some 35, some (32, true), .ix (.t 33) (.t 34)⟩, ⟨some 36, some (32, true), .bin (.geq) (.t 35) (.c (.int (.u8) 48))⟩, ⟨some 37, some (32, true), .mov (.t 36)⟩, ⟨some 38, some (37, true), .mov (.t 0)⟩, ⟨some 39, some (37, true), .mov (.t 3)⟩, ⟨some 40, some (37, true), .ix (.t 38) (.t 39)⟩, ⟨some 41, some (37, true), .bin (.leq) (.t 40) (.c (.int (.u8) 57))⟩, ⟨some 42, some (32, true), .pick (.t 37) (.t 41) (.c (.bool false))⟩, ⟨some 43, some (32, true), .not (.t 42)⟩, ⟨some 44, none, .pick (.t 32) (.t 43) (.c (.bool false))⟩, ⟨some 45, none, .mov (.t 44)⟩, ⟨some 46, some (45, true), .mov (.t 0)⟩, ⟨some 47, some (45, true), .mov (.t 3)⟩, ⟨some 48, some (45, true), .ix (.t 46) (.t 47)⟩, ⟨some 49, some (45, true), .bin (.neq) (.t 48) (.c (.int (.u8) 95))⟩, ⟨some 50, none, .pick (.t 45) (.t 49) (.c (.bool false))⟩] [3, 27, 28, 29, 30, 31, 32, 33, 34, 35, 36, 37, 38, 39, 40, 41, 42, 43, 44, 45, 46, 47, 48, 49]
@[simp] theorem gF_name_c10_eq : aw PP gF_name_c10 K env H = awOps PP [⟨some 27, none, .mov (.t 0)⟩, ⟨some 28, none, .mov (.t 3)⟩, ⟨some 29, none, .ix (.t 27) (.t 28)⟩, ⟨some 30, none, .call (.c (.fn (.func 81) [] [])) [.t 29]⟩, ⟨some 31, none, .not (.t 30)⟩, ⟨some 32, none, .mov (.t 31)⟩, ⟨some 33, some (32, true), .mov (.t 0)⟩, ⟨some 34, some (32, true), .mov (.t 3)⟩, ⟨some 35, some (32, true), .ix (.t 33) (.t 34)⟩, ⟨some 36, some (32, true), .bin (.geq) (.t 35) (.c (.int (.u8) 48))⟩, ⟨some 37, some (32, true), .mov (.t 36)⟩, ⟨some 38, some (37, true), .mov (.t 0)⟩, ⟨some 39, some (37, true), .mov (.t 3)⟩, ⟨some 40, some (37, true), .ix (.t 38) (.t 39)⟩, ⟨some 41, some (37, true), .bin (.leq) (.t 40) (.c (.int (.u8) 57))⟩, ⟨some 42, some (32, true), .pick (.t 37) (.t 41) (.c (.bool false))⟩, ⟨some 43, some (32, true), .not (.t 42)⟩, ⟨some 44, none, .pick (.t 32) (.t 43) (.c (.bool false))⟩, ⟨some 45, none, .mov (.t 44)⟩, ⟨some 46, some (45, true), .mov (.t 0)⟩, ⟨some 47, some (45, true), .mov (.t 3)⟩, ⟨some 48, some (45, true), .ix (.t 46) (.t 47)⟩, ⟨some 49, some (45, true), .bin (.neq) (.t 48) (.c (.int (.u8) 95))⟩, ⟨some 50, none, .pick (.t 45) (.t 49) (.c (.bool false))⟩] (regK K [3, 27, 28, 29, 30, 31, 32, 33, 34, 35, 36, 37, 38, 39, 40, 41, 42, 43, 44, 45, 46, 47, 48, 49]) (panK K) env H := aw_reg _ _
def gF_name_c11 : AC := .reg [⟨some 2, none, .mov (.c (.bool false))⟩] [0, 23, 24, 50]
@[simp] theorem gF_name_c11_eq : aw PP gF_name_c11 K env H = awOps PP [⟨some 2, none, .mov (.c (.bool false))⟩] (regK K [0, 23, 24, 50]) (panK K) env H := aw_reg _ _
def gF_name_c12 : AC := .seq gF_name_c11 .ret
@[simp] theorem gF_name_c12_eq : aw PP gF_name_c12 K env H = aw PP gF_name_c11 (seqK PP .ret K) env H := aw_seq gF_name_c11 .ret
def gF_name_c13 : AC := .cond (.t 50) gF_name_c12 .skip
@[simp] theorem gF_name_c13_eq : aw PP gF_name_c13 K env H = condQ PP (Opd.ev env (.t 50)) gF_name_c12 .skip K env H := aw_cond _ gF_name_c12 .skip
def gF_name_c14 : AC := .seq gF_name_c10 gF_name_c13
@[simp] theorem gF_name_c14_eq : aw PP gF_name_c14 K env H = aw PP gF_name_c10 (seqK PP gF_name_c13 K) env H := aw_seq gF_name_c10 gF_name_c13
def gF_name_c15 : AC := .seq gF_name_c9 gF_name_c14
@[simp] theorem gF_name_c15_eq : aw PP gF_name_c15 K env H = aw PP gF_name_c9 (seqK PP gF_name_c14 K) env H := aw_seq gF_name_c9 gF_name_c14
def gF_name_c16 : AC := .block 1 gF_name_c15
@[simp] theorem gF_name_c16_eq : aw PP gF_name_c16 K env H = aw PP gF_name_c15 (blockK 1 K) env H := aw_block _ gF_name_c15
def gF_name_c17 : AC := .reg [⟨some 51, none, .bin (.add) (.t 24) (.c (.int (.i64) 1))⟩, ⟨some 24, none, .mov (.t 51)⟩] [50, 51]
@[simp] theorem gF_name_c17_eq : aw PP gF_name_c17 K env H = awOps PP [⟨some 51, none, .bin (.add) (.t 24) (.c (.int (.i64) 1))⟩, ⟨some 24, none, .mov (.t 51)⟩] (regK K [50, 51]) (panK K) env H := aw_reg _ _
def gF_name_c18 : AC := .seq gF_name_c16 gF_name_c17
@[simp] theorem gF_name_c18_eq : aw PP gF_name_c18 K env H = aw PP gF_name_c16 (seqK PP gF_name_c17 K) env H := aw_seq gF_name_c16 gF_name_c17
def gF_name_c19 : AC := .seq gF_name_c8 gF_name_c18
@[simp] theorem gF_name_c19_eq : aw PP gF_name_c19 K env H = aw PP gF_name_c8 (seqK PP gF_name_c18 K) env H := aw_seq gF_name_c8 gF_name_c18
def gF_name_c20 : AC := .seq gF_name_c7 gF_name_c19
@[simp] theorem gF_name_c20_eq : aw PP gF_name_c20 K env H = aw PP gF_name_c7 (seqK PP gF_name_c19 K) env H := aw_seq gF_name_c7 gF_name_c19
def gF_name_c21 : AC := .loop gF_name_c20
def gF_name_c22 : AC := .block 0 gF_name_c21
@[simp] theorem gF_name_c22_eq : aw PP gF_name_c22 K env H = aw PP gF_name_c21 (blockK 0 K) env H := aw_block _ gF_name_c21
def gF_name_c23 : AC := .seq gF_name_c6 gF_name_c22
@[simp] theorem gF_name_c23_eq : aw PP gF_name_c23 K env H = aw PP gF_name_c6 (seqK PP gF_name_c22 K) env H := aw_seq gF_name_c6 gF_name_c22
def gF_name_c24 : AC := .reg [⟨some 2, none, .mov (.c (.bool true))⟩] [0, 23, 24, 25]
@[simp] theorem gF_name_c24_eq : aw PP gF_name_c24 K env H = awOps PP [⟨some 2, none, .mov (.c (.bool true))⟩] (regK K [0, 23, 24, 25]) (panK K) env H := aw_reg _ _
def gF_name_c25 : AC := .seq gF_name_c24 .ret
@[simp] theorem gF_name_c25_eq : aw PP gF_name_c25 K env H = aw PP gF_name_c24 (seqK PP .ret K) env H := aw_seq gF_name_c24 .ret
def gF_name_c26 : AC := .seq gF_name_c23 gF_name_c25
@[simp] theorem gF_name_c26_eq : aw PP gF_name_c26 K env H = aw PP gF_name_c23 (seqK PP gF_name_c25 K) env H := aw_seq gF_name_c23 gF_name_c25
def gF_name_c27 : AC := .seq gF_name_c5 gF_name_c26
@[simp] theorem gF_name_c27_eq : aw PP gF_name_c27 K env H = aw PP gF_name_c5 (seqK PP gF_name_c26 K) env H := aw_seq gF_name_c5 gF_name_c26
def gF_name_c28 : AC := .seq gF_name_c0 gF_name_c27
@[simp] theorem gF_name_c28_eq : aw PP gF_name_c28 K env H = aw PP gF_name_c0 (seqK PP gF_name_c27 K) env H := aw_seq gF_name_c0 gF_name_c27
def gF_name_ac : AC := gF_name_c28
@[simp] theorem gF_name_ac_eq : aw PP gF_name_ac K env H = aw PP gF_name_c28 K env H := Eq.trans rfl rfl
def gF_name_rs : List ARV := [.tmp 2]
abbrev gF_name_id : Nat := 56
theorem gF_name_comp : compF PP gF_name_kl gF_name_ow 1 Tryd.f56 = some (gF_name_ac, gF_name_rs) := by kernel_rfl
theorem gF_name_enter {args : List AV} {H : AHeap} {post : ARes → AHeap → Prop} (ha : args.length = 1) (h : aw PP gF_name_ac (retK gF_name_rs post) (argEnv 0 args) H) : ACalls PP gF_name_id args H post := .enterF Tryd.func56 PP_mix gF_name_comp ha h

/-! slices.Index[[]string,string] -/
def sl_Index_string_kl : Nat → List Nat
  | 0 => [4]
  | 1 => [6]
  | 3 => [9, 10]
  | 4 => [11, 12, 13, 14, 15]
  | 5 => [0, 1, 5, 7, 8, 16, 17]
  | 6 => [5, 16, 18]
  | 7 => [0, 1, 7, 8, 9]
  | _ => []
def sl_Index_string_ow : Nat → Nat → Bool := fun _ _ => false
def sl_Index_string_c0 : AC := .reg [⟨some 4, none, .mov (.c (.int (.i64) 0))⟩] [4]
@[simp] theorem sl_Index_string_c0_eq : aw PP sl_Index_string_c0 K env H = awOps PP [⟨some 4, none, .mov (.c (.int (.i64) 0))⟩] (regK K [4]) (panK K) env H := aw_reg _ _
def sl_Index_string_c1 : AC := .reg [⟨some 6, none, .mov (.t 0)⟩, ⟨some 7, none, .lenl (.t 6)⟩, ⟨some 8, none, .mov (.c (.int (.i64) 0))⟩] [6]
@[simp] theorem sl_Index_string_c1_eq : aw PP sl_Index_string_c1 K env H = awOps PP [⟨some 6, none, .mov (.t 0)⟩, ⟨some 7, none, .lenl (.t 6)⟩, ⟨some 8, none, .mov (.c (.int (.i64) 0))⟩] (regK K [6]) (panK K) env H := aw_reg _ _
def sl_Index_string_c2 : AC := .reg [⟨some 9, none, .bin (.lss) (.t 8) (.t 7)⟩] []
@[simp] theorem sl_Index_string_c2_eq : aw PP sl_Index_string_c2 K env H = awOps PP [⟨some 9, none, .bin (.lss) (.t 8) (.t 7)⟩] (regK K []) (panK K) env H := aw_reg _ _
def sl_Index_string_c3 : AC := .cond (.t 9) .skip (.exit 0)
@[simp] theorem sl_Index_string_c3_eq : aw PP sl_Index_string_c3 K env H = condQ PP (Opd.ev env (.t 9)) .skip (.exit 0) K env H := aw_cond _ .skip (.exit 0)
def sl_Index_string_c4 : AC := .reg [⟨some 10, none, .mov (.t 8)⟩, ⟨some 5, none, .mov (.t 10)⟩] [9, 10]
@[simp] theorem sl_Index_string_c4_eq : aw PP sl_Index_string_c4 K env H = awOps PP [⟨some 10, none, .mov (.t 8)⟩, ⟨some 5, none, .mov (.t 10)⟩] (regK K [9, 10]) (panK K) env H := aw_reg _ _
def sl_Index_string_c5 : AC := .reg [⟨some 11, none, .mov (.t 1)⟩, ⟨some 12, none, .mov (.t 0)⟩, ⟨some 13, none, .mov (.t 5)⟩, ⟨some 14, none, .ixa 1 (.t 12) (.t 13)⟩, ⟨some 15, none, .ld false 1 (.t 14)⟩, ⟨some 16, none, .bin (.eql) (.t 11) (.t 15)⟩] [11, 12, 13, 14, 15]
@[simp] theorem sl_Index_string_c5_eq : aw PP sl_Index_string_c5 K env H = awOps PP [⟨some 11, none, .mov (.t 1)⟩, ⟨some 12, none, .mov (.t 0)⟩, ⟨some 13, none, .mov (.t 5)⟩, ⟨some 14, none, .ixa 1 (.t 12) (.t 13)⟩, ⟨some 15, none, .ld false 1 (.t 14)⟩, ⟨some 16, none, .bin (.eql) (.t 11) (.t 15)⟩] (regK K [11, 12, 13, 14, 15]) (panK K) env H := aw_reg _ _
def sl_Index_string_c6 : AC := .reg [⟨some 17, none, .mov (.t 5)⟩, ⟨some 4, none, .mov (.t 17)⟩] [0, 1, 5, 7, 8, 16, 17]
@[simp] theorem sl_Index_string_c6_eq : aw PP sl_Index_string_c6 K env H = awOps PP [⟨some 17, none, .mov (.t 5)⟩, ⟨some 4, none, .mov (.t 17)⟩] (regK K [0, 1, 5, 7, 8, 16, 17]) (panK K) env H := aw_reg _ _
def sl_Index_string_c7 : AC := .seq sl_Index_string_c6 .ret
@[simp] theorem sl_Index_string_c7_eq : aw PP sl_Index_string_c7 K env H = aw PP sl_Index_string_c6 (seqK PP .ret K) env H := aw_seq sl_Index_string_c6 .ret
def sl_Index_string_c8 : AC := .cond (.t 16) sl_Index_string_c7 .skip
@[simp] theorem sl_Index_string_c8_eq : aw PP sl_Index_string_c8 K env H = condQ PP (Opd.ev env (.t 16)) sl_Index_string_c7 .skip K env H := aw_cond _ sl_Index_string_c7 .skip
def sl_Index_string_c9 : AC := .seq sl_Index_string_c5 sl_Index_string_c8
@[simp] theorem sl_Index_string_c9_eq : aw PP sl_Index_string_c9 K env H = aw PP sl_Index_string_c5 (seqK PP sl_Index_string_c8 K) env H := aw_seq sl_Index_string_c5 sl_Index_string_c8
def sl_Index_string_c10 : AC := .seq sl_Index_string_c4 sl_Index_string_c9
@[simp] theorem sl_Index_string_c10_eq : aw PP sl_Index_string_c10 K env H = aw PP sl_Index_string_c4 (seqK PP sl_Index_string_c9 K) env H := aw_seq sl_Index_string_c4 sl_Index_string_c9
def sl_Index_string_c11 : AC := .block 1 sl_Index_string_c10
@[simp] theorem sl_Index_string_c11_eq : aw PP sl_Index_string_c11 K env H = aw PP sl_Index_string_c10 (blockK 1 K) env H := aw_block _ sl_Index_string_c10
def sl_Index_string_c12 : AC := .reg [⟨some 18, none, .bin (.add) (.t 8) (.c (.int (.i64) 1))⟩, ⟨some 8, none, .mov (.t 18)⟩] [5, 16, 18]
@[simp] theorem sl_Index_string_c12_eq : aw PP sl_Index_string_c12 K env H = awOps PP [⟨some 18, none, .bin (.add) (.t 8) (.c (.int (.i64) 1))⟩, ⟨some 8, none, .mov (.t 18)⟩] (regK K [5, 16, 18]) (panK K) env H := aw_reg _ _
def sl_Index_string_c13 : AC := .seq sl_Index_string_c11 sl_Index_string_c12
@[simp] theorem sl_Index_string_c13_eq : aw PP sl_Index_string_c13 K env H = aw PP sl_Index_string_c11 (seqK PP sl_Index_string_c12 K) env H := aw_seq sl_Index_string_c11 sl_Index_string_c12
def sl_Index_string_c14 : AC := .seq sl_Index_string_c3 sl_Index_string_c13
@[simp] theorem sl_Index_string_c14_eq : aw PP sl_Index_string_c14 K env H = aw PP sl_Index_string_c3 (seqK PP sl_Index_string_c13 K) env H := aw_seq sl_Index_string_c3 sl_Index_string_c13
def sl_Index_string_c15 : AC := .seq sl_Index_string_c2 sl_Index_string_c14
@[simp] theorem sl_Index_string_c15_eq : aw PP sl_Index_string_c15 K env H = aw PP sl_Index_string_c2 (seqK PP sl_Index_string_c14 K) env H := aw_seq sl_Index_string_c2 sl_Index_string_c14
def sl_Index_string_c16 : AC := .loop sl_Index_string_c15
def sl_Index_string_c17 : AC := .block 0 sl_Index_string_c16
@[simp] theorem sl_Index_string_c17_eq : aw PP sl_Index_string_c17 K env H = aw PP sl_Index_string_c16 (blockK 0 K) env H := aw_block _ sl_Index_string_c16
def sl_Index_string_c18 : AC := .seq sl_Index_string_c1 sl_Index_string_c17
@[simp] theorem sl_Index_string_c18_eq : aw PP sl_Index_string_c18 K env H = aw PP sl_Index_string_c1 (seqK PP sl_Index_string_c17 K) env H := aw_seq sl_Index_string_c1 sl_Index_string_c17
def sl_Index_string_c19 : AC := .reg [⟨some 4, none, .mov (.c (.int (.i64) (-1)))⟩] [0, 1, 7, 8, 9]
@[simp] theorem sl_Index_string_c19_eq : aw PP sl_Index_string_c19 K env H = awOps PP [⟨some 4, none, .mov (.c (.int (.i64) (-1)))⟩] (regK K [0, 1, 7, 8, 9]) (panK K) env H := aw_reg _ _
def sl_Index_string_c20 : AC := .seq sl_Index_string_c19 .ret
@[simp] theorem sl_Index_string_c20_eq : aw PP sl_Index_string_c20 K env H = aw PP sl_Index_string_c19 (seqK PP .ret K) env H := aw_seq sl_Index_string_c19 .ret
def sl_Index_string_c21 : AC := .seq sl_Index_string_c18 sl_Index_string_c20
@[simp] theorem sl_Index_string_c21_eq : aw PP sl_Index_string_c21 K env H = aw PP sl_Index_string_c18 (seqK PP sl_Index_string_c20 K) env H := aw_seq sl_Index_string_c18 sl_Index_string_c20
def sl_Index_string_c22 : AC := .seq sl_Index_string_c0 sl_Index_string_c21
@[simp] theorem sl_Index_string_c22_eq : aw PP sl_Index_string_c22 K env H = aw PP sl_Index_string_c0 (seqK PP sl_Index_string_c21 K) env H := aw_seq sl_Index_string_c0 sl_Index_string_c21
def sl_Index_string_ac : AC := sl_Index_string_c22
@[simp] theorem sl_Index_string_ac_eq : aw PP sl_Index_string_ac K env H = aw PP sl_Index_string_c22 K env H := Eq.trans rfl rfl
def sl_Index_string_rs : List ARV := [.tmp 4]
abbrev sl_Index_string_id : Nat := 57
theorem sl_Index_string_comp : compF PP sl_Index_string_kl sl_Index_string_ow 2 Tryd.f57 = some (sl_Index_string_ac, sl_Index_string_rs) := by kernel_rfl
theorem sl_Index_string_enter {args : List AV} {H : AHeap} {post : ARes → AHeap → Prop} (ha : args.length = 2) (h : aw PP sl_Index_string_ac (retK sl_Index_string_rs post) (argEnv 0 args) H) : ACalls PP sl_Index_string_id args H post := .enterF Tryd.func57 PP_mix sl_Index_string_comp ha h

/-! slices.EqualFunc[[]emendate.api.GExpr,[]emendate.api.GExpr,emendate.api.GExpr,emendate.api.GExpr] -/
def sE_GExpr_kl : Nat → List Nat
  | 0 => [6]
  | 1 => [10, 11, 12, 13]
  | 2 => [0, 1, 2, 14]
  | 3 => [0, 14]
  | 5 => [18, 19, 20, 21]
  | 6 => [7, 22, 23, 24, 25]
  | 7 => [8, 9, 26, 27, 28, 29]
  | 8 => [1, 2, 15, 16, 17, 30]
  | 9 => [30, 31]
  | 10 => [1, 2, 15, 16, 17, 18]
  | _ => []
def sE_GExpr_ow : Nat → Nat → Bool := fun _ _ => false
def sE_GExpr_c0 : AC := .reg [⟨some 6, none, .mov (.c (.bool false))⟩] [6]
@[simp] theorem sE_GExpr_c0_eq : aw PP sE_GExpr_c0 K env H = awOps PP [⟨some 6, none, .mov (.c (.bool false))⟩] (regK K [6]) (panK K) env H := aw_reg _ _
def sE_GExpr_c1 : AC := .reg [⟨some 10, none, .mov (.t 0)⟩, ⟨some 11, none, .lenl (.t 10)⟩, ⟨some 12, none, .mov (.t 1)⟩, ⟨some 13, none, .lenl (.t 12)⟩, ⟨some 14, none, .bin (.neq) (.t 11) (.t 13)⟩] [10, 11, 12, 13]
@[simp] theorem sE_GExpr_c1_eq : aw PP sE_GExpr_c1 K env H = awOps PP [⟨some 10, none, .mov (.t 0)⟩, ⟨some 11, none, .lenl (.t 10)⟩, ⟨some 12, none, .mov (.t 1)⟩, ⟨some 13, none, .lenl (.t 12)⟩, ⟨some 14, none, .bin (.neq) (.t 11) (.t 13)⟩] (regK K [10, 11, 12, 13]) (panK K) env H := aw_reg _ _
def sE_GExpr_c2 : AC := .reg [⟨some 6, none, .mov (.c (.bool false))⟩] [0, 1, 2, 14]
@[simp] theorem sE_GExpr_c2_eq : aw PP sE_GExpr_c2 K env H = awOps PP [⟨some 6, none, .mov (.c (.bool false))⟩] (regK K [0, 1, 2, 14]) (panK K) env H := aw_reg _ _
def sE_GExpr_c3 : AC := .seq sE_GExpr_c2 .ret
@[simp] theorem sE_GExpr_c3_eq : aw PP sE_GExpr_c3 K env H = aw PP sE_GExpr_c2 (seqK PP .ret K) env H := aw_seq sE_GExpr_c2 .ret
def sE_GExpr_c4 : AC := .cond (.t 14) sE_GExpr_c3 .skip
@[simp] theorem sE_GExpr_c4_eq : aw PP sE_GExpr_c4 K env H = condQ PP (Opd.ev env (.t 14)) sE_GExpr_c3 .skip K env H := aw_cond _ sE_GExpr_c3 .skip
def sE_GExpr_c5 : AC := .seq sE_GExpr_c1 sE_GExpr_c4
@[simp] theorem sE_GExpr_c5_eq : aw PP sE_GExpr_c5 K env H = aw PP sE_GExpr_c1 (seqK PP sE_GExpr_c4 K) env H := aw_seq sE_GExpr_c1 sE_GExpr_c4
def sE_GExpr_c6 : AC := .reg [⟨some 15, none, .mov (.t 0)⟩, ⟨some 16, none, .lenl (.t 15)⟩, ⟨some 17, none, .mov (.c (.int (.i64) 0))⟩] [0, 14]
@[simp] theorem sE_GExpr_c6_eq : aw PP sE_GExpr_c6 K env H = awOps PP [⟨some 15, none, .mov (.t 0)⟩, ⟨some 16, none, .lenl (.t 15)⟩, ⟨some 17, none, .mov (.c (.int (.i64) 0))⟩] (regK K [0, 14]) (panK K) env H := aw_reg _ _
def sE_GExpr_c7 : AC := .reg [⟨some 18, none, .bin (.lss) (.t 17) (.t 16)⟩] []
@[simp] theorem sE_GExpr_c7_eq : aw PP sE_GExpr_c7 K env H = awOps PP [⟨some 18, none, .bin (.lss) (.t 17) (.t 16)⟩] (regK K []) (panK K) env H := aw_reg _ _
def sE_GExpr_c8 : AC := .cond (.t 18) .skip (.exit 0)
@[simp] theorem sE_GExpr_c8_eq : aw PP sE_GExpr_c8 K env H = condQ PP (Opd.ev env (.t 18)) .skip (.exit 0) K env H := aw_cond _ .skip (.exit 0)
def sE_GExpr_c9 : AC := .reg [⟨some 19, none, .mov (.t 17)⟩, ⟨some 20, none, .ixa 3 (.t 15) (.t 17)⟩, ⟨some 21, none, .ld true 3 (.t 20)⟩, ⟨some 8, none, .alloc (.struct [.int (.i64) 0, .str [], .nils]) 33⟩, ⟨some 7, none, .mov (.t 19)⟩, ⟨none, none, .st 3 (.t 8) (.t 21)⟩] [18, 19, 20, 21]
@[simp] theorem sE_GExpr_c9_eq : aw PP sE_GExpr_c9 K env H = awOps PP [⟨some 19, none, .mov (.t 17)⟩, ⟨some 20, none, .ixa 3 (.t 15) (.t 17)⟩, ⟨some 21, none, .ld true 3 (.t 20)⟩, ⟨some 8, none, .alloc (.struct [.int (.i64) 0, .str [], .nils]) 33⟩, ⟨some 7, none, .mov (.t 19)⟩, ⟨none, none, .st 3 (.t 8) (.t 21)⟩] (regK K [18, 19, 20, 21]) (panK K) env H := aw_reg _ _
def sE_GExpr_c10 : AC := .reg [⟨some 22, none, .mov (.t 1)⟩, ⟨some 23, none, .mov (.t 7)⟩, ⟨some 24, none, .ixa 3 (.t 22) (.t 23)⟩, ⟨some 25, none, .ld true 3 (.t 24)⟩, ⟨some 9, none, .alloc (.struct [.int (.i64) 0, .str [], .nils]) 33⟩, ⟨none, none, .st 3 (.t 9) (.t 25)⟩] [7, 22, 23, 24, 25]
@[simp] theorem sE_GExpr_c10_eq : aw PP sE_GExpr_c10 K env H = awOps PP [⟨some 22, none, .mov (.t 1)⟩, ⟨some 23, none, .mov (.t 7)⟩, ⟨some 24, none, .ixa 3 (.t 22) (.t 23)⟩, ⟨some 25, none, .ld true 3 (.t 24)⟩, ⟨some 9, none, .alloc (.struct [.int (.i64) 0, .str [], .nils]) 33⟩, ⟨none, none, .st 3 (.t 9) (.t 25)⟩] (regK K [7, 22, 23, 24, 25]) (panK K) env H := aw_reg _ _
def sE_GExpr_c11 : AC := .reg [⟨some 26, none, .mov (.t 2)⟩, ⟨some 27, none, .ld true 3 (.t 8)⟩, ⟨some 28, none, .ld true 3 (.t 9)⟩, ⟨some 29, none, .call (.t 26) [.t 27, .t 28]⟩, ⟨some 30, none, .not (.t 29)⟩] [8, 9, 26, 27, 28, 29]
@[simp] theorem sE_GExpr_c11_eq : aw PP sE_GExpr_c11 K env H = awOps PP [⟨some 26, none, .mov (.t 2)⟩, ⟨some 27, none, .ld true 3 (.t 8)⟩, ⟨some 28, none, .ld true 3 (.t 9)⟩, ⟨some 29, none, .call (.t 26) [.t 27, .t 28]⟩, ⟨some 30, none, .not (.t 29)⟩] (regK K [8, 9, 26, 27, 28, 29]) (panK K) env H := aw_reg _ _
def sE_GExpr_c12 : AC := .reg [⟨some 6, none, .mov (.c (.bool false))⟩] [1, 2, 15, 16, 17, 30]
@[simp] theorem sE_GExpr_c12_eq : aw PP sE_GExpr_c12 K env H = awOps PP [⟨some 6, none, .mov (.c (.bool false))⟩] (regK K [1, 2, 15, 16, 17, 30]) (panK K) env H := aw_reg _ _
def sE_GExpr_c13 : AC := .seq sE_GExpr_c12 .ret
@[simp] theorem sE_GExpr_c13_eq : aw PP sE_GExpr_c13 K env H = aw PP sE_GExpr_c12 (seqK PP .ret K) env H := aw_seq sE_GExpr_c12 .ret
def sE_GExpr_c14 : AC := .cond (.t 30) sE_GExpr_c13 .skip
@[simp] theorem sE_GExpr_c14_eq : aw PP sE_GExpr_c14 K env H = condQ PP (Opd.ev env (.t 30)) sE_GExpr_c13 .skip K env H := aw_cond _ sE_GExpr_c13 .skip
def sE_GExpr_c15 : AC := .seq sE_GExpr_c11 sE_GExpr_c14
@[simp] theorem sE_GExpr_c15_eq : aw PP sE_GExpr_c15 K env H = aw PP sE_GExpr_c11 (seqK PP sE_GExpr_c14 K) env H := aw_seq sE_GExpr_c11 sE_GExpr_c14
def sE_GExpr_c16 : AC := .seq sE_GExpr_c10 sE_GExpr_c15
@[simp] theorem sE_GExpr_c16_eq : aw PP sE_GExpr_c16 K env H = aw PP sE_GExpr_c10 (seqK PP sE_GExpr_c15 K) env H := aw_seq sE_GExpr_c10 sE_GExpr_c15
def sE_GExpr_c17 : AC := .seq sE_GExpr_c9 sE_GExpr_c16
@[simp] theorem sE_GExpr_c17_eq : aw PP sE_GExpr_c17 K env H = aw PP sE_GExpr_c9 (seqK PP sE_GExpr_c16 K) env H := aw_seq sE_GExpr_c9 sE_GExpr_c16
def sE_GExpr_c18 : AC := .block 1 sE_GExpr_c17
@[simp] theorem sE_GExpr_c18_eq : aw PP sE_GExpr_c18 K env H = aw PP sE_GExpr_c17 (blockK 1 K) env H := aw_block _ sE_GExpr_c17
def sE_GExpr_c19 : AC := .reg [⟨some 31, none, .bin (.add) (.t 17) (.c (.int (.i64) 1))⟩, ⟨some 17, none, .mov (.t 31)⟩] [30, 31]
@[simp] theorem sE_GExpr_c19_eq : aw PP sE_GExpr_c19 K env H = awOps PP [⟨some 31, none, .bin (.add) (.t 17) (.c (.int (.i64) 1))⟩, ⟨some 17, none, .mov (.t 31)⟩] (regK K [30, 31]) (panK K) env H := aw_reg _ _
def sE_GExpr_c20 : AC := .seq sE_GExpr_c18 sE_GExpr_c19
@[simp] theorem sE_GExpr_c20_eq : aw PP sE_GExpr_c20 K env H = aw PP sE_GExpr_c18 (seqK PP sE_GExpr_c19 K) env H := aw_seq sE_GExpr_c18 sE_GExpr_c19
def sE_GExpr_c21 : AC := .seq sE_GExpr_c8 sE_GExpr_c20
@[simp] theorem sE_GExpr_c21_eq : aw PP sE_GExpr_c21 K env H = aw PP sE_GExpr_c8 (seqK PP sE_GExpr_c20 K) env H := aw_seq sE_GExpr_c8 sE_GExpr_c20
def sE_GExpr_c22 : AC := .seq sE_GExpr_c7 sE_GExpr_c21
@[simp] theorem sE_GExpr_c22_eq : aw PP sE_GExpr_c22 K env H = aw PP sE_GExpr_c7 (seqK PP sE_GExpr_c21 K) env H := aw_seq sE_GExpr_c7 sE_GExpr_c21
def sE_GExpr_c23 : AC := .loop sE_GExpr_c22
def sE_GExpr_c24 : AC := .block 0 sE_GExpr_c23
@[simp] theorem sE_GExpr_c24_eq : aw PP sE_GExpr_c24 K env H = aw PP sE_GExpr_c23 (blockK 0 K) env H := aw_block _ sE_GExpr_c23
def sE_GExpr_c25 : AC := .seq sE_GExpr_c6 sE_GExpr_c24
@[simp] theorem sE_GExpr_c25_eq : aw PP sE_GExpr_c25 K env H = aw PP sE_GExpr_c6 (seqK PP sE_GExpr_c24 K) env H := aw_seq sE_GExpr_c6 sE_GExpr_c24
def sE_GExpr_c26 : AC := .reg [⟨some 6, none, .mov (.c (.bool true))⟩] [1, 2, 15, 16, 17, 18]
@[simp] theorem sE_GExpr_c26_eq : aw PP sE_GExpr_c26 K env H = awOps PP [⟨some 6, none, .mov (.c (.bool true))⟩] (regK K [1, 2, 15, 16, 17, 18]) (panK K) env H := aw_reg _ _
def sE_GExpr_c27 : AC := .seq sE_GExpr_c26 .ret
@[simp] theorem sE_GExpr_c27_eq : aw PP sE_GExpr_c27 K env H = aw PP sE_GExpr_c26 (seqK PP .ret K) env H := aw_seq sE_GExpr_c26 .ret
def sE_GExpr_c28 : AC := .seq sE_GExpr_c25 sE_GExpr_c27
@[simp] theorem sE_GExpr_c28_eq : aw PP sE_GExpr_c28 K env H = aw PP sE_GExpr_c25 (seqK PP sE_GExpr_c27 K) env H := aw_seq sE_GExpr_c25 sE_GExpr_c27
def sE_GExpr_c29 : AC := .seq sE_GExpr_c5 sE_GExpr_c28
@[simp] theorem sE_GExpr_c29_eq : aw PP sE_GExpr_c29 K env H = aw PP sE_GExpr_c5 (seqK PP sE_GExpr_c28 K) env H := aw_seq sE_GExpr_c5 sE_GExpr_c28
def sE_GExpr_c30 : AC := .seq sE_GExpr_c0 sE_GExpr_c29
@[simp] theorem sE_GExpr_c30_eq : aw PP sE_GExpr_c30 K env H = aw PP sE_GExpr_c0 (seqK PP sE_GExpr_c29 K) env H := aw_seq sE_GExpr_c0 sE_GExpr_c29
def sE_GExpr_ac : AC := sE_GExpr_c30
@[simp] theorem sE_GExpr_ac_eq : aw PP sE_GExpr_ac K env H = aw PP sE_GExpr_c30 K env H := Eq.trans rfl rfl
def sE_GExpr_rs : List ARV := [.tmp 6]
abbrev sE_GExpr_id : Nat := 58
theorem sE_GExpr_comp : compF PP sE_GExpr_kl sE_GExpr_ow 3 Tryd.f58 = some (sE_GExpr_ac, sE_GExpr_rs) := by kernel_rfl
theorem sE_GExpr_enter {args : List AV} {H : AHeap} {post : ARes → AHeap → Prop} (ha : args.length = 3) (h : aw PP sE_GExpr_ac (retK sE_GExpr_rs post) (argEnv 0 args) H) : ACalls PP sE_GExpr_id args H post := .enterF Tryd.func58 PP_mix sE_GExpr_comp ha h

end Go.Av
