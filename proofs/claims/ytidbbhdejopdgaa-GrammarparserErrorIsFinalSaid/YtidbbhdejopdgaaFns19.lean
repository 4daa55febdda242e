/- Functions of the given program, compiled to the own form by program. -/
import Derived.Test.YtidbbhdejopdgaaProg
import Derived.KernelRfl
import Derived.Test.YtidbbhdejopdgaaAvF
import Derived.Test.YtidbbhdejopdgaaFns1
set_option linter.unusedVariables false
set_option linter.unusedSimpArgs false
namespace Go.Av
open Go Go.Proofs
/-! emendate.grammarparser.lex -/
def grammarparser_lex_kl : Nat → List Nat
  | 0 => [2]
  | 3 => [8, 9, 10]
  | 4 => [11, 12, 13]
  | 5 => [14, 15]
  | 6 => [16, 17, 18]
  | 7 => [20, 21, 22, 23, 24, 25, 26, 27, 28, 29, 30, 31, 32, 33]
  | 8 => [5, 6, 7, 19, 34, 35]
  | 9 => [19, 37, 38]
  | 10 => [5, 6, 7, 36, 39, 40, 41]
  | 11 => [36, 43, 44]
  | 12 => [7, 42, 45, 46, 47]
  | 13 => [48]
  | 14 => [7, 42, 50, 51]
  | 15 => [49, 52, 53, 54]
  | 16 => [55, 56, 57, 58, 59, 60]
  | 17 => [4, 49, 61, 62, 63, 64, 65]
  | 18 => [5, 66, 67, 68, 69]
  | 19 => [6, 70]
  | 20 => [0, 3, 4, 11, 71]
  | _ => []
def grammarparser_lex_ow : Nat → Nat → Bool := fun _ _ => false
def grammarparser_lex_c0 : AC := .reg [⟨some 2, none, .mov (.c (.nils))⟩] [2]
@[simp] theorem grammarparser_lex_c0_eq {K : AK} {env : Env} {H : AHeap} : aw PP grammarparser_lex_c0 K env H = awOps PP [⟨some 2, none, .mov (.c (.nils))⟩] (regK K [2]) (panK K) env H := aw_reg _ _
def grammarparser_lex_c1 : AC := .reg [⟨some 3, none, .mov (.c (.nils))⟩] []
@[simp] theorem grammarparser_lex_c1_eq {K : AK} {env : Env} {H : AHeap} : aw PP grammarparser_lex_c1 K env H = awOps PP [⟨some 3, none, .mov (.c (.nils))⟩] (regK K []) (panK K) env H := aw_reg _ _
def grammarparser_lex_c2 : AC := .reg [⟨some 4, none, .mov (.c (.int (.i64) 0))⟩] []
@[simp] theorem grammarparser_lex_c2_eq {K : AK} {env : Env} {H : AHeap} : aw PP grammarparser_lex_c2 K env H = awOps PP [⟨some 4, none, .mov (.c (.int (.i64) 0))⟩] (regK K []) (panK K) env H := aw_reg _ _
def grammarparser_lex_c3 : AC := .reg [⟨some 8, none, .mov (.t 4)⟩, ⟨some 9, none, .mov (.t 0)⟩, ⟨some 10, none, .lens (.t 9)⟩, ⟨some 11, none, .bin (.lss) (.t 8) (.t 10)⟩] [8, 9, 10]
@[simp] theorem grammarparser_lex_c3_eq {K : AK} {env : Env} {H : AHeap} : aw PP grammarparser_lex_c3 K env H = awOps PP [⟨some 8, none, .mov (.t 4)⟩, ⟨some 9, none, .mov (.t 0)⟩, ⟨some 10, none, .lens (.t 9)⟩, ⟨some 11, none, .bin (.lss) (.t 8) (.t 10)⟩] (regK K [8, 9, 10]) (panK K) env H := aw_reg _ _
def grammarparser_lex_c4 : AC := .cond (.t 11) .skip (.exit 0)
@[simp] theorem grammarparser_lex_c4_eq {K : AK} {env : Env} {H : AHeap} : aw PP grammarparser_lex_c4 K env H = condQ PP (Opd.ev env (.t 11)) .skip (.exit 0) K env H := aw_cond _ .skip (.exit 0)
def grammarparser_lex_c5 : AC := .seq grammarparser_lex_c3 grammarparser_lex_c4
@[simp] theorem grammarparser_lex_c5_eq {K : AK} {env : Env} {H : AHeap} : aw PP grammarparser_lex_c5 K env H = aw PP grammarparser_lex_c3 (seqK PP grammarparser_lex_c4 K) env H := aw_seq grammarparser_lex_c3 grammarparser_lex_c4
def grammarparser_lex_c6 : AC := .reg [⟨some 12, none, .mov (.t 4)⟩, ⟨some 13, none, .build [.int (.i64) 0, .str [], .bool false, .int (.i64) 0] [(0, .t 12), (3, .c (.int (.i64) (-1)))]⟩, ⟨some 5, none, .alloc (.struct [.int (.i64) 0, .str [], .bool false, .int (.i64) 0]) 79⟩, ⟨none, none, .st 4 (.t 5) (.t 13)⟩] [11, 12, 13]
@[simp] theorem grammarparser_lex_c6_eq {K : AK} {env : Env} {H : AHeap} : aw PP grammarparser_lex_c6 K env H = awOps PP [⟨some 12, none, .mov (.t 4)⟩, ⟨some 13, none, .build [.int (.i64) 0, .str [], .bool false, .int (.i64) 0] [(0, .t 12), (3, .c (.int (.i64) (-1)))]⟩, ⟨some 5, none, .alloc (.struct [.int (.i64) 0, .str [], .bool false, .int (.i64) 0]) 79⟩, ⟨none, none, .st 4 (.t 5) (.t 13)⟩] (regK K [11, 12, 13]) (panK K) env H := aw_reg _ _
def grammarparser_lex_c7 : AC := .reg [⟨some 14, none, .mov (.t 4)⟩, ⟨some 15, none, .bin (.add) (.t 14) (.c (.int (.i64) 1))⟩, ⟨some 6, none, .mov (.t 15)⟩] [14, 15]
@[simp] theorem grammarparser_lex_c7_eq {K : AK} {env : Env} {H : AHeap} : aw PP grammarparser_lex_c7 K env H = awOps PP [⟨some 14, none, .mov (.t 4)⟩, ⟨some 15, none, .bin (.add) (.t 14) (.c (.int (.i64) 1))⟩, ⟨some 6, none, .mov (.t 15)⟩] (regK K [14, 15]) (panK K) env H := aw_reg _ _
def grammarparser_lex_c8 : AC := .reg [⟨some 16, none, .mov (.t 0)⟩, ⟨some 17, none, .mov (.t 4)⟩, ⟨some 18, none, .ix (.t 16) (.t 17)⟩, ⟨some 7, none, .mov (.t 18)⟩] [16, 17, 18]
@[simp] theorem grammarparser_lex_c8_eq {K : AK} {env : Env} {H : AHeap} : aw PP grammarparser_lex_c8 K env H = awOps PP [⟨some 16, none, .mov (.t 0)⟩, ⟨some 17, none, .mov (.t 4)⟩, ⟨some 18, none, .ix (.t 16) (.t 17)⟩, ⟨some 7, none, .mov (.t 18)⟩] (regK K [16, 17, 18]) (panK K) env H := aw_reg _ _
def grammarparser_lex_c9 : AC := .reg [⟨some 20, none, .mov (.t 7)⟩, ⟨some 21, none, .bin (.eql) (.t 20) (.c (.int (.u8) 32))⟩, ⟨some 22, none, .mov (.t 21)⟩, ⟨some 23, some (22, false), .mov (.t 7)⟩, ⟨some 24, some (22, false), .bin (.eql) (.t 23) (.c (.int (.u8) 9))⟩, ⟨some 25, none, .pick (.t 22) (.c (.bool true)) (.t 24)⟩, ⟨some 26, none, .mov (.t 25)⟩, ⟨some 27, some (26, false), .mov (.t 7)⟩, ⟨some 28, some (26, false), .bin (.eql) (.t 27) (.c (.int (.u8) 13))⟩, ⟨some 29, none, .pick (.t 26) (.c (.bool true)) (.t 28)⟩, ⟨some 30, none, .mov (.t 29)⟩, ⟨some 31, some (30, false), .mov (.t 7)⟩, ⟨some 32, some (30, false), .bin (.eql) (.t 31) (.c (.int (.u8) 10))⟩, ⟨some 33, none, .pick (.t 30) (.c (.bool true)) (.t 32)⟩, ⟨some 19, none, .mov (.t 33)⟩] [20, 21, 22, 23, 24, 25, 26, 27, 28, 29, 30, 31, 32, 33]
@[simp] theorem grammarparser_lex_c9_eq {K : AK} {env : Env} {H : AHeap} : aw PP grammarparser_lex_c9 K env H = awOps PP [⟨some 20, none, .mov (.t 7)⟩, ⟨some 21, none, .bin (.eql) (.t 20) (.c (.int (.u8) 32))⟩, ⟨some 22, none, .mov (.t 21)⟩, ⟨some 23, some (22, false), .mov (.t 7)⟩, ⟨some 24, some (22, false), .bin (.eql) (.t 23) (.c (.int (.u8) 9))⟩, ⟨some 25, none, .pick (.t 22) (.c (.bool true)) (.t 24)⟩, ⟨some 26, none, .mov (.t 25)⟩, ⟨some 27, some (26, false), .mov (.t 7)⟩, ⟨some 28, some (26, false), .bin (.eql) (.t 27) (.c (.int (.u8) 13))⟩, ⟨some 29, none, .pick (.t 26) (.c (.bool true)) (.t 28)⟩, ⟨some 30, none, .mov (.t 29)⟩, ⟨some 31, some (30, false), .mov (.t 7)⟩, ⟨some 32, some (30, false), .bin (.eql) (.t 31) (.c (.int (.u8) 10))⟩, ⟨some 33, none, .pick (.t 30) (.c (.bool true)) (.t 32)⟩, ⟨some 19, none, .mov (.t 33)⟩] (regK K [20, 21, 22, 23, 24, 25, 26, 27, 28, 29, 30, 31, 32, 33]) (panK K) env H := aw_reg _ _
def grammarparser_lex_c10 : AC := .reg [⟨some 34, none, .mov (.t 4)⟩, ⟨some 35, none, .bin (.add) (.t 34) (.c (.int (.i64) 1))⟩, ⟨some 4, none, .mov (.t 35)⟩] [5, 6, 7, 19, 34, 35]
@[simp] theorem grammarparser_lex_c10_eq {K : AK} {env : Env} {H : AHeap} : aw PP grammarparser_lex_c10 K env H = awOps PP [⟨some 34, none, .mov (.t 4)⟩, ⟨some 35, none, .bin (.add) (.t 34) (.c (.int (.i64) 1))⟩, ⟨some 4, none, .mov (.t 35)⟩] (regK K [5, 6, 7, 19, 34, 35]) (panK K) env H := aw_reg _ _
def grammarparser_lex_c11 : AC := .seq grammarparser_lex_c10 (.exit 1)
@[simp] theorem grammarparser_lex_c11_eq {K : AK} {env : Env} {H : AHeap} : aw PP grammarparser_lex_c11 K env H = aw PP grammarparser_lex_c10 (seqK PP (.exit 1) K) env H := aw_seq grammarparser_lex_c10 (.exit 1)
def grammarparser_lex_c12 : AC := .reg [⟨some 37, none, .mov (.t 7)⟩, ⟨some 38, none, .bin (.eql) (.t 37) (.c (.int (.u8) 35))⟩, ⟨some 36, none, .mov (.t 38)⟩] [19, 37, 38]
@[simp] theorem grammarparser_lex_c12_eq {K : AK} {env : Env} {H : AHeap} : aw PP grammarparser_lex_c12 K env H = awOps PP [⟨some 37, none, .mov (.t 7)⟩, ⟨some 38, none, .bin (.eql) (.t 37) (.c (.int (.u8) 35))⟩, ⟨some 36, none, .mov (.t 38)⟩] (regK K [19, 37, 38]) (panK K) env H := aw_reg _ _
def grammarparser_lex_c13 : AC := .reg [⟨some 39, none, .mov (.t 0)⟩, ⟨some 40, none, .mov (.t 4)⟩, ⟨some 41, none, .call (.c (.fn (.func 47) [] [])) [.t 39, .t 40, .c (.fn (.func 48) [] [])]⟩, ⟨some 4, none, .mov (.t 41)⟩] [5, 6, 7, 36, 39, 40, 41]
@[simp] theorem grammarparser_lex_c13_eq {K : AK} {env : Env} {H : AHeap} : aw PP grammarparser_lex_c13 K env H = awOps PP [⟨some 39, none, .mov (.t 0)⟩, ⟨some 40, none, .mov (.t 4)⟩, ⟨some 41, none, .call (.c (.fn (.func 47) [] [])) [.t 39, .t 40, .c (.fn (.func 48) [] [])]⟩, ⟨some 4, none, .mov (.t 41)⟩] (regK K [5, 6, 7, 36, 39, 40, 41]) (panK K) env H := aw_reg _ _
def grammarparser_lex_c14 : AC := .seq grammarparser_lex_c13 (.exit 1)
@[simp] theorem grammarparser_lex_c14_eq {K : AK} {env : Env} {H : AHeap} : aw PP grammarparser_lex_c14 K env H = aw PP grammarparser_lex_c13 (seqK PP (.exit 1) K) env H := aw_seq grammarparser_lex_c13 (.exit 1)
def grammarparser_lex_c15 : AC := .reg [⟨some 43, none, .mov (.t 7)⟩, ⟨some 44, none, .call (.c (.fn (.func 49) [] [])) [.t 43]⟩, ⟨some 42, none, .mov (.t 44)⟩] [36, 43, 44]
@[simp] theorem grammarparser_lex_c15_eq {K : AK} {env : Env} {H : AHeap} : aw PP grammarparser_lex_c15 K env H = awOps PP [⟨some 43, none, .mov (.t 7)⟩, ⟨some 44, none, .call (.c (.fn (.func 49) [] [])) [.t 43]⟩, ⟨some 42, none, .mov (.t 44)⟩] (regK K [36, 43, 44]) (panK K) env H := aw_reg _ _
def grammarparser_lex_c16 : AC := .reg [⟨some 45, none, .mov (.t 0)⟩, ⟨some 46, none, .mov (.t 4)⟩, ⟨some 47, none, .call (.c (.fn (.func 47) [] [])) [.t 45, .t 46, .c (.fn (.func 50) [] [])]⟩, ⟨some 6, none, .mov (.t 47)⟩] [7, 42, 45, 46, 47]
@[simp] theorem grammarparser_lex_c16_eq {K : AK} {env : Env} {H : AHeap} : aw PP grammarparser_lex_c16 K env H = awOps PP [⟨some 45, none, .mov (.t 0)⟩, ⟨some 46, none, .mov (.t 4)⟩, ⟨some 47, none, .call (.c (.fn (.func 47) [] [])) [.t 45, .t 46, .c (.fn (.func 50) [] [])]⟩, ⟨some 6, none, .mov (.t 47)⟩] (regK K [7, 42, 45, 46, 47]) (panK K) env H := aw_reg _ _
def grammarparser_lex_c17 : AC := .reg [⟨some 48, none, .fa 2 2 (.t 5)⟩, ⟨none, none, .st 1 (.t 48) (.c (.bool true))⟩] [48]
@[simp] theorem grammarparser_lex_c17_eq {K : AK} {env : Env} {H : AHeap} : aw PP grammarparser_lex_c17 K env H = awOps PP [⟨some 48, none, .fa 2 2 (.t 5)⟩, ⟨none, none, .st 1 (.t 48) (.c (.bool true))⟩] (regK K [48]) (panK K) env H := aw_reg _ _
def grammarparser_lex_c18 : AC := .seq grammarparser_lex_c16 grammarparser_lex_c17
@[simp] theorem grammarparser_lex_c18_eq {K : AK} {env : Env} {H : AHeap} : aw PP grammarparser_lex_c18 K env H = aw PP grammarparser_lex_c16 (seqK PP grammarparser_lex_c17 K) env H := aw_seq grammarparser_lex_c16 grammarparser_lex_c17
def grammarparser_lex_c19 : AC := .reg [⟨some 50, none, .mov (.t 7)⟩, ⟨some 51, none, .call (.c (.fn (.func 51) [] [])) [.t 50]⟩, ⟨some 49, none, .mov (.t 51)⟩] [7, 42, 50, 51]
@[simp] theorem grammarparser_lex_c19_eq {K : AK} {env : Env} {H : AHeap} : aw PP grammarparser_lex_c19 K env H = awOps PP [⟨some 50, none, .mov (.t 7)⟩, ⟨some 51, none, .call (.c (.fn (.func 51) [] [])) [.t 50]⟩, ⟨some 49, none, .mov (.t 51)⟩] (regK K [7, 42, 50, 51]) (panK K) env H := aw_reg _ _
def grammarparser_lex_c20 : AC := .reg [⟨some 52, none, .mov (.t 0)⟩, ⟨some 53, none, .mov (.t 4)⟩, ⟨some 54, none, .call (.c (.fn (.func 47) [] [])) [.t 52, .t 53, .c (.fn (.func 51) [] [])]⟩, ⟨some 6, none, .mov (.t 54)⟩] [49, 52, 53, 54]
@[simp] theorem grammarparser_lex_c20_eq {K : AK} {env : Env} {H : AHeap} : aw PP grammarparser_lex_c20 K env H = awOps PP [⟨some 52, none, .mov (.t 0)⟩, ⟨some 53, none, .mov (.t 4)⟩, ⟨some 54, none, .call (.c (.fn (.func 47) [] [])) [.t 52, .t 53, .c (.fn (.func 51) [] [])]⟩, ⟨some 6, none, .mov (.t 54)⟩] (regK K [49, 52, 53, 54]) (panK K) env H := aw_reg _ _
def grammarparser_lex_c21 : AC := .reg [⟨some 55, none, .mov (.t 0)⟩, ⟨some 56, none, .mov (.t 4)⟩, ⟨some 57, none, .mov (.t 6)⟩, ⟨some 58, none, .sls (.t 55) (some (.t 56)) (some (.t 57))⟩, ⟨some 59, none, .call (.c (.fn (.func 52) [] [])) [.t 58]⟩, ⟨some 60, none, .fa 3 3 (.t 5)⟩, ⟨none, none, .st 1 (.t 60) (.t 59)⟩] [55, 56, 57, 58, 59, 60]
@[simp] theorem grammarparser_lex_c21_eq {K : AK} {env : Env} {H : AHeap} : aw PP grammarparser_lex_c21 K env H = awOps PP [⟨some 55, none, .mov (.t 0)⟩, ⟨some 56, none, .mov (.t 4)⟩, ⟨some 57, none, .mov (.t 6)⟩, ⟨some 58, none, .sls (.t 55) (some (.t 56)) (some (.t 57))⟩, ⟨some 59, none, .call (.c (.fn (.func 52) [] [])) [.t 58]⟩, ⟨some 60, none, .fa 3 3 (.t 5)⟩, ⟨none, none, .st 1 (.t 60) (.t 59)⟩] (regK K [55, 56, 57, 58, 59, 60]) (panK K) env H := aw_reg _ _
def grammarparser_lex_c22 : AC := .seq grammarparser_lex_c20 grammarparser_lex_c21
@[simp] theorem grammarparser_lex_c22_eq {K : AK} {env : Env} {H : AHeap} : aw PP grammarparser_lex_c22 K env H = aw PP grammarparser_lex_c20 (seqK PP grammarparser_lex_c21 K) env H := aw_seq grammarparser_lex_c20 grammarparser_lex_c21
def grammarparser_lex_c23 : AC := .cond (.t 49) grammarparser_lex_c22 .skip
@[simp] theorem grammarparser_lex_c23_eq {K : AK} {env : Env} {H : AHeap} : aw PP grammarparser_lex_c23 K env H = condQ PP (Opd.ev env (.t 49)) grammarparser_lex_c22 .skip K env H := aw_cond _ grammarparser_lex_c22 .skip
def grammarparser_lex_c24 : AC := .seq grammarparser_lex_c19 grammarparser_lex_c23
@[simp] theorem grammarparser_lex_c24_eq {K : AK} {env : Env} {H : AHeap} : aw PP grammarparser_lex_c24 K env H = aw PP grammarparser_lex_c19 (seqK PP grammarparser_lex_c23 K) env H := aw_seq grammarparser_lex_c19 grammarparser_lex_c23
def grammarparser_lex_c25 : AC := .cond (.t 42) grammarparser_lex_c18 grammarparser_lex_c24
@[simp] theorem grammarparser_lex_c25_eq {K : AK} {env : Env} {H : AHeap} : aw PP grammarparser_lex_c25 K env H = condQ PP (Opd.ev env (.t 42)) grammarparser_lex_c18 grammarparser_lex_c24 K env H := aw_cond _ grammarparser_lex_c18 grammarparser_lex_c24
def grammarparser_lex_c26 : AC := .seq grammarparser_lex_c15 grammarparser_lex_c25
@[simp] theorem grammarparser_lex_c26_eq {K : AK} {env : Env} {H : AHeap} : aw PP grammarparser_lex_c26 K env H = aw PP grammarparser_lex_c15 (seqK PP grammarparser_lex_c25 K) env H := aw_seq grammarparser_lex_c15 grammarparser_lex_c25
def grammarparser_lex_c27 : AC := .cond (.t 36) grammarparser_lex_c14 grammarparser_lex_c26
@[simp] theorem grammarparser_lex_c27_eq {K : AK} {env : Env} {H : AHeap} : aw PP grammarparser_lex_c27 K env H = condQ PP (Opd.ev env (.t 36)) grammarparser_lex_c14 grammarparser_lex_c26 K env H := aw_cond _ grammarparser_lex_c14 grammarparser_lex_c26
def grammarparser_lex_c28 : AC := .seq grammarparser_lex_c12 grammarparser_lex_c27
@[simp] theorem grammarparser_lex_c28_eq {K : AK} {env : Env} {H : AHeap} : aw PP grammarparser_lex_c28 K env H = aw PP grammarparser_lex_c12 (seqK PP grammarparser_lex_c27 K) env H := aw_seq grammarparser_lex_c12 grammarparser_lex_c27
def grammarparser_lex_c29 : AC := .cond (.t 19) grammarparser_lex_c11 grammarparser_lex_c28
@[simp] theorem grammarparser_lex_c29_eq {K : AK} {env : Env} {H : AHeap} : aw PP grammarparser_lex_c29 K env H = condQ PP (Opd.ev env (.t 19)) grammarparser_lex_c11 grammarparser_lex_c28 K env H := aw_cond _ grammarparser_lex_c11 grammarparser_lex_c28
def grammarparser_lex_c30 : AC := .seq grammarparser_lex_c9 grammarparser_lex_c29
@[simp] theorem grammarparser_lex_c30_eq {K : AK} {env : Env} {H : AHeap} : aw PP grammarparser_lex_c30 K env H = aw PP grammarparser_lex_c9 (seqK PP grammarparser_lex_c29 K) env H := aw_seq grammarparser_lex_c9 grammarparser_lex_c29
def grammarparser_lex_c31 : AC := .block 2 grammarparser_lex_c30
@[simp] theorem grammarparser_lex_c31_eq {K : AK} {env : Env} {H : AHeap} : aw PP grammarparser_lex_c31 K env H = aw PP grammarparser_lex_c30 (blockK 2 K) env H := aw_block _ grammarparser_lex_c30
def grammarparser_lex_c32 : AC := .seq grammarparser_lex_c8 grammarparser_lex_c31
@[simp] theorem grammarparser_lex_c32_eq {K : AK} {env : Env} {H : AHeap} : aw PP grammarparser_lex_c32 K env H = aw PP grammarparser_lex_c8 (seqK PP grammarparser_lex_c31 K) env H := aw_seq grammarparser_lex_c8 grammarparser_lex_c31
def grammarparser_lex_c33 : AC := .reg [⟨some 61, none, .mov (.t 0)⟩, ⟨some 62, none, .mov (.t 4)⟩, ⟨some 63, none, .mov (.t 6)⟩, ⟨some 64, none, .sls (.t 61) (some (.t 62)) (some (.t 63))⟩, ⟨some 65, none, .fa 1 1 (.t 5)⟩, ⟨none, none, .st 1 (.t 65) (.t 64)⟩] [4, 49, 61, 62, 63, 64, 65]
@[simp] theorem grammarparser_lex_c33_eq {K : AK} {env : Env} {H : AHeap} : aw PP grammarparser_lex_c33 K env H = awOps PP [⟨some 61, none, .mov (.t 0)⟩, ⟨some 62, none, .mov (.t 4)⟩, ⟨some 63, none, .mov (.t 6)⟩, ⟨some 64, none, .sls (.t 61) (some (.t 62)) (some (.t 63))⟩, ⟨some 65, none, .fa 1 1 (.t 5)⟩, ⟨none, none, .st 1 (.t 65) (.t 64)⟩] (regK K [4, 49, 61, 62, 63, 64, 65]) (panK K) env H := aw_reg _ _
def grammarparser_lex_c34 : AC := .reg [⟨some 66, none, .mov (.t 3)⟩, ⟨some 67, none, .ld true 4 (.t 5)⟩, ⟨some 68, none, .bsl false 79 4 1 (.struct [.int (.i64) 0, .str [], .bool false, .int (.i64) 0]) [(0, .t 67)]⟩, ⟨some 69, none, .app 79 4 40 (.t 66) (.t 68)⟩, ⟨some 3, none, .mov (.t 69)⟩] [5, 66, 67, 68, 69]
@[simp] theorem grammarparser_lex_c34_eq {K : AK} {env : Env} {H : AHeap} : aw PP grammarparser_lex_c34 K env H = awOps PP [⟨some 66, none, .mov (.t 3)⟩, ⟨some 67, none, .ld true 4 (.t 5)⟩, ⟨some 68, none, .bsl false 79 4 1 (.struct [.int (.i64) 0, .str [], .bool false, .int (.i64) 0]) [(0, .t 67)]⟩, ⟨some 69, none, .app 79 4 40 (.t 66) (.t 68)⟩, ⟨some 3, none, .mov (.t 69)⟩] (regK K [5, 66, 67, 68, 69]) (panK K) env H := aw_reg _ _
def grammarparser_lex_c35 : AC := .reg [⟨some 70, none, .mov (.t 6)⟩, ⟨some 4, none, .mov (.t 70)⟩] [6, 70]
@[simp] theorem grammarparser_lex_c35_eq {K : AK} {env : Env} {H : AHeap} : aw PP grammarparser_lex_c35 K env H = awOps PP [⟨some 70, none, .mov (.t 6)⟩, ⟨some 4, none, .mov (.t 70)⟩] (regK K [6, 70]) (panK K) env H := aw_reg _ _
def grammarparser_lex_c36 : AC := .seq grammarparser_lex_c34 grammarparser_lex_c35
@[simp] theorem grammarparser_lex_c36_eq {K : AK} {env : Env} {H : AHeap} : aw PP grammarparser_lex_c36 K env H = aw PP grammarparser_lex_c34 (seqK PP grammarparser_lex_c35 K) env H := aw_seq grammarparser_lex_c34 grammarparser_lex_c35
def grammarparser_lex_c37 : AC := .seq grammarparser_lex_c33 grammarparser_lex_c36
@[simp] theorem grammarparser_lex_c37_eq {K : AK} {env : Env} {H : AHeap} : aw PP grammarparser_lex_c37 K env H = aw PP grammarparser_lex_c33 (seqK PP grammarparser_lex_c36 K) env H := aw_seq grammarparser_lex_c33 grammarparser_lex_c36
def grammarparser_lex_c38 : AC := .seq grammarparser_lex_c32 grammarparser_lex_c37
@[simp] theorem grammarparser_lex_c38_eq {K : AK} {env : Env} {H : AHeap} : aw PP grammarparser_lex_c38 K env H = aw PP grammarparser_lex_c32 (seqK PP grammarparser_lex_c37 K) env H := aw_seq grammarparser_lex_c32 grammarparser_lex_c37
def grammarparser_lex_c39 : AC := .seq grammarparser_lex_c7 grammarparser_lex_c38
@[simp] theorem grammarparser_lex_c39_eq {K : AK} {env : Env} {H : AHeap} : aw PP grammarparser_lex_c39 K env H = aw PP grammarparser_lex_c7 (seqK PP grammarparser_lex_c38 K) env H := aw_seq grammarparser_lex_c7 grammarparser_lex_c38
def grammarparser_lex_c40 : AC := .seq grammarparser_lex_c6 grammarparser_lex_c39
@[simp] theorem grammarparser_lex_c40_eq {K : AK} {env : Env} {H : AHeap} : aw PP grammarparser_lex_c40 K env H = aw PP grammarparser_lex_c6 (seqK PP grammarparser_lex_c39 K) env H := aw_seq grammarparser_lex_c6 grammarparser_lex_c39
def grammarparser_lex_c41 : AC := .block 1 grammarparser_lex_c40
@[simp] theorem grammarparser_lex_c41_eq {K : AK} {env : Env} {H : AHeap} : aw PP grammarparser_lex_c41 K env H = aw PP grammarparser_lex_c40 (blockK 1 K) env H := aw_block _ grammarparser_lex_c40
def grammarparser_lex_c42 : AC := .seq grammarparser_lex_c5 grammarparser_lex_c41
@[simp] theorem grammarparser_lex_c42_eq {K : AK} {env : Env} {H : AHeap} : aw PP grammarparser_lex_c42 K env H = aw PP grammarparser_lex_c5 (seqK PP grammarparser_lex_c41 K) env H := aw_seq grammarparser_lex_c5 grammarparser_lex_c41
def grammarparser_lex_c43 : AC := .loop grammarparser_lex_c42
def grammarparser_lex_c44 : AC := .block 0 grammarparser_lex_c43
@[simp] theorem grammarparser_lex_c44_eq {K : AK} {env : Env} {H : AHeap} : aw PP grammarparser_lex_c44 K env H = aw PP grammarparser_lex_c43 (blockK 0 K) env H := aw_block _ grammarparser_lex_c43
def grammarparser_lex_c45 : AC := .seq grammarparser_lex_c2 grammarparser_lex_c44
@[simp] theorem grammarparser_lex_c45_eq {K : AK} {env : Env} {H : AHeap} : aw PP grammarparser_lex_c45 K env H = aw PP grammarparser_lex_c2 (seqK PP grammarparser_lex_c44 K) env H := aw_seq grammarparser_lex_c2 grammarparser_lex_c44
def grammarparser_lex_c46 : AC := .reg [⟨some 71, none, .mov (.t 3)⟩, ⟨some 2, none, .mov (.t 71)⟩] [0, 3, 4, 11, 71]
@[simp] theorem grammarparser_lex_c46_eq {K : AK} {env : Env} {H : AHeap} : aw PP grammarparser_lex_c46 K env H = awOps PP [⟨some 71, none, .mov (.t 3)⟩, ⟨some 2, none, .mov (.t 71)⟩] (regK K [0, 3, 4, 11, 71]) (panK K) env H := aw_reg _ _
def grammarparser_lex_c47 : AC := .seq grammarparser_lex_c46 .ret
@[simp] theorem grammarparser_lex_c47_eq {K : AK} {env : Env} {H : AHeap} : aw PP grammarparser_lex_c47 K env H = aw PP grammarparser_lex_c46 (seqK PP .ret K) env H := aw_seq grammarparser_lex_c46 .ret
def grammarparser_lex_c48 : AC := .seq grammarparser_lex_c45 grammarparser_lex_c47
@[simp] theorem grammarparser_lex_c48_eq {K : AK} {env : Env} {H : AHeap} : aw PP grammarparser_lex_c48 K env H = aw PP grammarparser_lex_c45 (seqK PP grammarparser_lex_c47 K) env H := aw_seq grammarparser_lex_c45 grammarparser_lex_c47
def grammarparser_lex_c49 : AC := .seq grammarparser_lex_c1 grammarparser_lex_c48
@[simp] theorem grammarparser_lex_c49_eq {K : AK} {env : Env} {H : AHeap} : aw PP grammarparser_lex_c49 K env H = aw PP grammarparser_lex_c1 (seqK PP grammarparser_lex_c48 K) env H := aw_seq grammarparser_lex_c1 grammarparser_lex_c48
def grammarparser_lex_c50 : AC := .seq grammarparser_lex_c0 grammarparser_lex_c49
@[simp] theorem grammarparser_lex_c50_eq {K : AK} {env : Env} {H : AHeap} : aw PP grammarparser_lex_c50 K env H = aw PP grammarparser_lex_c0 (seqK PP grammarparser_lex_c49 K) env H := aw_seq grammarparser_lex_c0 grammarparser_lex_c49
def grammarparser_lex_ac : AC := grammarparser_lex_c50
@[simp] theorem grammarparser_lex_ac_eq {K : AK} {env : Env} {H : AHeap} : aw PP grammarparser_lex_ac K env H = aw PP grammarparser_lex_c50 K env H := Eq.trans rfl rfl
def grammarparser_lex_rs : List ARV := [.tmp 2]
abbrev grammarparser_lex_id : Nat := 19
theorem grammarparser_lex_comp : compF PP grammarparser_lex_kl grammarparser_lex_ow 1 Try.f19 = some (grammarparser_lex_ac, grammarparser_lex_rs) := by kernel_rfl
theorem grammarparser_lex_enter {args : List AV} {H : AHeap} {post : ARes → AHeap → Prop} (ha : args.length = 1) (h : aw PP grammarparser_lex_ac (retK grammarparser_lex_rs post) (argEnv 0 args) H) : ACalls PP grammarparser_lex_id args H post := .enterF Try.func19 PP_mix grammarparser_lex_comp ha h

/-! (*emendate.grammarparser.reader).expect -/
def grammarparser_reader_expect_kl : Nat → List Nat
  | 0 => [1, 4, 5, 6, 7]
  | 1 => [8, 9, 10]
  | 2 => [0, 8, 11, 12]
  | _ => []
def grammarparser_reader_expect_ow : Nat → Nat → Bool := fun _ _ => false
def grammarparser_reader_expect_c0 : AC := .reg [⟨some 4, none, .mov (.t 0)⟩, ⟨some 5, none, .call (.c (.fn (.func 53) [] [])) [.t 4]⟩, ⟨some 6, none, .fld 1 1 1 false (.t 5)⟩, ⟨some 7, none, .mov (.t 1)⟩, ⟨some 8, none, .bin (.neq) (.t 6) (.t 7)⟩] [1, 4, 5, 6, 7]
@[simp] theorem grammarparser_reader_expect_c0_eq {K : AK} {env : Env} {H : AHeap} : aw PP grammarparser_reader_expect_c0 K env H = awOps PP [⟨some 4, none, .mov (.t 0)⟩, ⟨some 5, none, .call (.c (.fn (.func 53) [] [])) [.t 4]⟩, ⟨some 6, none, .fld 1 1 1 false (.t 5)⟩, ⟨some 7, none, .mov (.t 1)⟩, ⟨some 8, none, .bin (.neq) (.t 6) (.t 7)⟩] (regK K [1, 4, 5, 6, 7]) (panK K) env H := aw_reg _ _
def grammarparser_reader_expect_c1 : AC := .reg [⟨some 9, none, .mov (.t 0)⟩, ⟨some 10, none, .call (.c (.fn (.func 54) [] [])) [.t 9]⟩] [8, 9, 10]
@[simp] theorem grammarparser_reader_expect_c1_eq {K : AK} {env : Env} {H : AHeap} : aw PP grammarparser_reader_expect_c1 K env H = awOps PP [⟨some 9, none, .mov (.t 0)⟩, ⟨some 10, none, .call (.c (.fn (.func 54) [] [])) [.t 9]⟩] (regK K [8, 9, 10]) (panK K) env H := aw_reg _ _
def grammarparser_reader_expect_c2 : AC := .cond (.t 8) grammarparser_reader_expect_c1 .skip
@[simp] theorem grammarparser_reader_expect_c2_eq {K : AK} {env : Env} {H : AHeap} : aw PP grammarparser_reader_expect_c2 K env H = condQ PP (Opd.ev env (.t 8)) grammarparser_reader_expect_c1 .skip K env H := aw_cond _ grammarparser_reader_expect_c1 .skip
def grammarparser_reader_expect_c3 : AC := .seq grammarparser_reader_expect_c0 grammarparser_reader_expect_c2
@[simp] theorem grammarparser_reader_expect_c3_eq {K : AK} {env : Env} {H : AHeap} : aw PP grammarparser_reader_expect_c3 K env H = aw PP grammarparser_reader_expect_c0 (seqK PP grammarparser_reader_expect_c2 K) env H := aw_seq grammarparser_reader_expect_c0 grammarparser_reader_expect_c2
def grammarparser_reader_expect_c4 : AC := .reg [⟨some 11, none, .mov (.t 0)⟩, ⟨some 12, none, .call (.c (.fn (.func 55) [] [])) [.t 11]⟩] [0, 8, 11, 12]
@[simp] theorem grammarparser_reader_expect_c4_eq {K : AK} {env : Env} {H : AHeap} : aw PP grammarparser_reader_expect_c4 K env H = awOps PP [⟨some 11, none, .mov (.t 0)⟩, ⟨some 12, none, .call (.c (.fn (.func 55) [] [])) [.t 11]⟩] (regK K [0, 8, 11, 12]) (panK K) env H := aw_reg _ _
def grammarparser_reader_expect_c5 : AC := .seq grammarparser_reader_expect_c3 grammarparser_reader_expect_c4
@[simp] theorem grammarparser_reader_expect_c5_eq {K : AK} {env : Env} {H : AHeap} : aw PP grammarparser_reader_expect_c5 K env H = aw PP grammarparser_reader_expect_c3 (seqK PP grammarparser_reader_expect_c4 K) env H := aw_seq grammarparser_reader_expect_c3 grammarparser_reader_expect_c4
def grammarparser_reader_expect_ac : AC := grammarparser_reader_expect_c5
@[simp] theorem grammarparser_reader_expect_ac_eq {K : AK} {env : Env} {H : AHeap} : aw PP grammarparser_reader_expect_ac K env H = aw PP grammarparser_reader_expect_c5 K env H := Eq.trans rfl rfl
def grammarparser_reader_expect_rs : List ARV := []
abbrev grammarparser_reader_expect_id : Nat := 20
theorem grammarparser_reader_expect_comp : compF PP grammarparser_reader_expect_kl grammarparser_reader_expect_ow 2 Try.f20 = some (grammarparser_reader_expect_ac, grammarparser_reader_expect_rs) := by kernel_rfl
theorem grammarparser_reader_expect_enter {args : List AV} {H : AHeap} {post : ARes → AHeap → Prop} (ha : args.length = 2) (h : aw PP grammarparser_reader_expect_ac (retK grammarparser_reader_expect_rs post) (argEnv 0 args) H) : ACalls PP grammarparser_reader_expect_id args H post := .enterF Try.func20 PP_mix grammarparser_reader_expect_comp ha h

/-! (*emendate.grammarparser.reader).name -/
def grammarparser_reader_name_kl : Nat → List Nat
  | 0 => [2]
  | 1 => [4, 5]
  | 2 => [3, 6, 7, 8, 9, 10, 11, 12]
  | 3 => [13, 14, 15]
  | 4 => [0, 13, 16, 17, 18]
  | _ => []
def grammarparser_reader_name_ow : Nat → Nat → Bool := fun _ _ => false
def grammarparser_reader_name_c0 : AC := .reg [⟨some 2, none, .mov (.c (.str []))⟩] [2]
@[simp] theorem grammarparser_reader_name_c0_eq {K : AK} {env : Env} {H : AHeap} : aw PP grammarparser_reader_name_c0 K env H = awOps PP [⟨some 2, none, .mov (.c (.str []))⟩] (regK K [2]) (panK K) env H := aw_reg _ _
def grammarparser_reader_name_c1 : AC := .reg [⟨some 4, none, .mov (.t 0)⟩, ⟨some 5, none, .call (.c (.fn (.func 53) [] [])) [.t 4]⟩, ⟨some 3, none, .alloc (.struct [.int (.i64) 0, .str [], .bool false, .int (.i64) 0]) 79⟩, ⟨none, none, .st 4 (.t 3) (.t 5)⟩] [4, 5]
@[simp] theorem grammarparser_reader_name_c1_eq {K : AK} {env : Env} {H : AHeap} : aw PP grammarparser_reader_name_c1 K env H = awOps PP [⟨some 4, none, .mov (.t 0)⟩, ⟨some 5, none, .call (.c (.fn (.func 53) [] [])) [.t 4]⟩, ⟨some 3, none, .alloc (.struct [.int (.i64) 0, .str [], .bool false, .int (.i64) 0]) 79⟩, ⟨none, none, .st 4 (.t 3) (.t 5)⟩] (regK K [4, 5]) (panK K) env H := aw_reg _ _
def grammarparser_reader_name_c2 : AC := .reg [⟨some 6, none, .fa 2 2 (.t 3)⟩, ⟨some 7, none, .ld false 1 (.t 6)⟩, ⟨some 8, none, .not (.t 7)⟩, ⟨some 9, none, .mov (.t 8)⟩, ⟨some 10, some (9, false), .fa 1 1 (.t 3)⟩, ⟨some 11, some (9, false), .ld false 1 (.t 10)⟩, ⟨some 12, some (9, false), .call (.c (.fn (.func 56) [] [])) [.t 11]⟩, ⟨some 13, none, .pick (.t 9) (.c (.bool true)) (.t 12)⟩] [3, 6, 7, 8, 9, 10, 11, 12]
@[simp] theorem grammarparser_reader_name_c2_eq {K : AK} {env : Env} {H : AHeap} : aw PP grammarparser_reader_name_c2 K env H = awOps PP [⟨some 6, none, .fa 2 2 (.t 3)⟩, ⟨some 7, none, .ld false 1 (.t 6)⟩, ⟨some 8, none, .not (.t 7)⟩, ⟨some 9, none, .mov (.t 8)⟩, ⟨some 10, some (9, false), .fa 1 1 (.t 3)⟩, ⟨some 11, some (9, false), .ld false 1 (.t 10)⟩, ⟨some 12, some (9, false), .call (.c (.fn (.func 56) [] [])) [.t 11]⟩, ⟨some 13, none, .pick (.t 9) (.c (.bool true)) (.t 12)⟩] (regK K [3, 6, 7, 8, 9, 10, 11, 12]) (panK K) env H := aw_reg _ _
def grammarparser_reader_name_c3 : AC := .reg [⟨some 14, none, .mov (.t 0)⟩, ⟨some 15, none, .call (.c (.fn (.func 54) [] [])) [.t 14]⟩] [13, 14, 15]
@[simp] theorem grammarparser_reader_name_c3_eq {K : AK} {env : Env} {H : AHeap} : aw PP grammarparser_reader_name_c3 K env H = awOps PP [⟨some 14, none, .mov (.t 0)⟩, ⟨some 15, none, .call (.c (.fn (.func 54) [] [])) [.t 14]⟩] (regK K [13, 14, 15]) (panK K) env H := aw_reg _ _
def grammarparser_reader_name_c4 : AC := .cond (.t 13) grammarparser_reader_name_c3 .skip
@[simp] theorem grammarparser_reader_name_c4_eq {K : AK} {env : Env} {H : AHeap} : aw PP grammarparser_reader_name_c4 K env H = condQ PP (Opd.ev env (.t 13)) grammarparser_reader_name_c3 .skip K env H := aw_cond _ grammarparser_reader_name_c3 .skip
def grammarparser_reader_name_c5 : AC := .seq grammarparser_reader_name_c2 grammarparser_reader_name_c4
@[simp] theorem grammarparser_reader_name_c5_eq {K : AK} {env : Env} {H : AHeap} : aw PP grammarparser_reader_name_c5 K env H = aw PP grammarparser_reader_name_c2 (seqK PP grammarparser_reader_name_c4 K) env H := aw_seq grammarparser_reader_name_c2 grammarparser_reader_name_c4
def grammarparser_reader_name_c6 : AC := .seq grammarparser_reader_name_c1 grammarparser_reader_name_c5
@[simp] theorem grammarparser_reader_name_c6_eq {K : AK} {env : Env} {H : AHeap} : aw PP grammarparser_reader_name_c6 K env H = aw PP grammarparser_reader_name_c1 (seqK PP grammarparser_reader_name_c5 K) env H := aw_seq grammarparser_reader_name_c1 grammarparser_reader_name_c5
def grammarparser_reader_name_c7 : AC := .reg [⟨some 16, none, .mov (.t 0)⟩, ⟨some 17, none, .call (.c (.fn (.func 55) [] [])) [.t 16]⟩, ⟨some 18, none, .fld 1 1 1 false (.t 17)⟩, ⟨some 2, none, .mov (.t 18)⟩] [0, 13, 16, 17, 18]
@[simp] theorem grammarparser_reader_name_c7_eq {K : AK} {env : Env} {H : AHeap} : aw PP grammarparser_reader_name_c7 K env H = awOps PP [⟨some 16, none, .mov (.t 0)⟩, ⟨some 17, none, .call (.c (.fn (.func 55) [] [])) [.t 16]⟩, ⟨some 18, none, .fld 1 1 1 false (.t 17)⟩, ⟨some 2, none, .mov (.t 18)⟩] (regK K [0, 13, 16, 17, 18]) (panK K) env H := aw_reg _ _
def grammarparser_reader_name_c8 : AC := .seq grammarparser_reader_name_c7 .ret
@[simp] theorem grammarparser_reader_name_c8_eq {K : AK} {env : Env} {H : AHeap} : aw PP grammarparser_reader_name_c8 K env H = aw PP grammarparser_reader_name_c7 (seqK PP .ret K) env H := aw_seq grammarparser_reader_name_c7 .ret
def grammarparser_reader_name_c9 : AC := .seq grammarparser_reader_name_c6 grammarparser_reader_name_c8
@[simp] theorem grammarparser_reader_name_c9_eq {K : AK} {env : Env} {H : AHeap} : aw PP grammarparser_reader_name_c9 K env H = aw PP grammarparser_reader_name_c6 (seqK PP grammarparser_reader_name_c8 K) env H := aw_seq grammarparser_reader_name_c6 grammarparser_reader_name_c8
def grammarparser_reader_name_c10 : AC := .seq grammarparser_reader_name_c0 grammarparser_reader_name_c9
@[simp] theorem grammarparser_reader_name_c10_eq {K : AK} {env : Env} {H : AHeap} : aw PP grammarparser_reader_name_c10 K env H = aw PP grammarparser_reader_name_c0 (seqK PP grammarparser_reader_name_c9 K) env H := aw_seq grammarparser_reader_name_c0 grammarparser_reader_name_c9
def grammarparser_reader_name_ac : AC := grammarparser_reader_name_c10
@[simp] theorem grammarparser_reader_name_ac_eq {K : AK} {env : Env} {H : AHeap} : aw PP grammarparser_reader_name_ac K env H = aw PP grammarparser_reader_name_c10 K env H := Eq.trans rfl rfl
def grammarparser_reader_name_rs : List ARV := [.tmp 2]
abbrev grammarparser_reader_name_id : Nat := 21
theorem grammarparser_reader_name_comp : compF PP grammarparser_reader_name_kl grammarparser_reader_name_ow 1 Try.f21 = some (grammarparser_reader_name_ac, grammarparser_reader_name_rs) := by kernel_rfl
theorem grammarparser_reader_name_enter {args : List AV} {H : AHeap} {post : ARes → AHeap → Prop} (ha : args.length = 1) (h : aw PP grammarparser_reader_name_ac (retK grammarparser_reader_name_rs post) (argEnv 0 args) H) : ACalls PP grammarparser_reader_name_id args H post := .enterF Try.func21 PP_mix grammarparser_reader_name_comp ha h

/-! (*emendate.grammarparser.reader).levels -/
def grammarparser_reader_levels_kl : Nat → List Nat
  | 0 => [2]
  | 2 => [4, 5]
  | 3 => [0, 3, 7, 22]
  | 4 => [9]
  | 5 => [6, 8, 10, 11, 12, 13, 14]
  | 6 => [8, 16]
  | 7 => [6, 15, 17, 18, 19, 20, 21]
  | 8 => [6, 15, 23]
  | 9 => [22, 24, 25, 26, 27, 28]
  | _ => []
def grammarparser_reader_levels_ow : Nat → Nat → Bool := fun _ _ => false
def grammarparser_reader_levels_c0 : AC := .reg [⟨some 2, none, .mov (.c (.nils))⟩] [2]
@[simp] theorem grammarparser_reader_levels_c0_eq {K : AK} {env : Env} {H : AHeap} : aw PP grammarparser_reader_levels_c0 K env H = awOps PP [⟨some 2, none, .mov (.c (.nils))⟩] (regK K [2]) (panK K) env H := aw_reg _ _
def grammarparser_reader_levels_c1 : AC := .reg [⟨some 3, none, .mov (.c (.nils))⟩] []
@[simp] theorem grammarparser_reader_levels_c1_eq {K : AK} {env : Env} {H : AHeap} : aw PP grammarparser_reader_levels_c1 K env H = awOps PP [⟨some 3, none, .mov (.c (.nils))⟩] (regK K []) (panK K) env H := aw_reg _ _
def grammarparser_reader_levels_c2 : AC := .reg [⟨some 4, none, .mov (.t 0)⟩, ⟨some 5, none, .call (.c (.fn (.func 53) [] [])) [.t 4]⟩, ⟨some 6, none, .fld 1 1 1 false (.t 5)⟩] [4, 5]
@[simp] theorem grammarparser_reader_levels_c2_eq {K : AK} {env : Env} {H : AHeap} : aw PP grammarparser_reader_levels_c2 K env H = awOps PP [⟨some 4, none, .mov (.t 0)⟩, ⟨some 5, none, .call (.c (.fn (.func 53) [] [])) [.t 4]⟩, ⟨some 6, none, .fld 1 1 1 false (.t 5)⟩] (regK K [4, 5]) (panK K) env H := aw_reg _ _
def grammarparser_reader_levels_c3 : AC := .reg [⟨some 9, none, .bin (.eql) (.t 6) (.c (.str [108, 101, 102, 116]))⟩, ⟨some 8, none, .mov (.t 9)⟩] [9]
@[simp] theorem grammarparser_reader_levels_c3_eq {K : AK} {env : Env} {H : AHeap} : aw PP grammarparser_reader_levels_c3 K env H = awOps PP [⟨some 9, none, .bin (.eql) (.t 6) (.c (.str [108, 101, 102, 116]))⟩, ⟨some 8, none, .mov (.t 9)⟩] (regK K [9]) (panK K) env H := aw_reg _ _
def grammarparser_reader_levels_c4 : AC := .reg [⟨some 10, none, .mov (.t 3)⟩, ⟨some 11, none, .mov (.t 0)⟩, ⟨some 12, none, .call (.c (.fn (.func 57) [] [])) [.t 11, .c (.int (.i64) 1)]⟩, ⟨some 13, none, .bsl false 64 2 1 (.struct [.int (.i64) 0, .nils]) [(0, .t 12)]⟩, ⟨some 14, none, .app 64 2 32 (.t 10) (.t 13)⟩, ⟨some 3, none, .mov (.t 14)⟩] [6, 8, 10, 11, 12, 13, 14]
@[simp] theorem grammarparser_reader_levels_c4_eq {K : AK} {env : Env} {H : AHeap} : aw PP grammarparser_reader_levels_c4 K env H = awOps PP [⟨some 10, none, .mov (.t 3)⟩, ⟨some 11, none, .mov (.t 0)⟩, ⟨some 12, none, .call (.c (.fn (.func 57) [] [])) [.t 11, .c (.int (.i64) 1)]⟩, ⟨some 13, none, .bsl false 64 2 1 (.struct [.int (.i64) 0, .nils]) [(0, .t 12)]⟩, ⟨some 14, none, .app 64 2 32 (.t 10) (.t 13)⟩, ⟨some 3, none, .mov (.t 14)⟩] (regK K [6, 8, 10, 11, 12, 13, 14]) (panK K) env H := aw_reg _ _
def grammarparser_reader_levels_c5 : AC := .reg [⟨some 16, none, .bin (.eql) (.t 6) (.c (.str [114, 105, 103, 104, 116]))⟩, ⟨some 15, none, .mov (.t 16)⟩] [8, 16]
@[simp] theorem grammarparser_reader_levels_c5_eq {K : AK} {env : Env} {H : AHeap} : aw PP grammarparser_reader_levels_c5 K env H = awOps PP [⟨some 16, none, .bin (.eql) (.t 6) (.c (.str [114, 105, 103, 104, 116]))⟩, ⟨some 15, none, .mov (.t 16)⟩] (regK K [8, 16]) (panK K) env H := aw_reg _ _
def grammarparser_reader_levels_c6 : AC := .reg [⟨some 17, none, .mov (.t 3)⟩, ⟨some 18, none, .mov (.t 0)⟩, ⟨some 19, none, .call (.c (.fn (.func 57) [] [])) [.t 18, .c (.int (.i64) 2)]⟩, ⟨some 20, none, .bsl false 64 2 1 (.struct [.int (.i64) 0, .nils]) [(0, .t 19)]⟩, ⟨some 21, none, .app 64 2 32 (.t 17) (.t 20)⟩, ⟨some 3, none, .mov (.t 21)⟩] [6, 15, 17, 18, 19, 20, 21]
@[simp] theorem grammarparser_reader_levels_c6_eq {K : AK} {env : Env} {H : AHeap} : aw PP grammarparser_reader_levels_c6 K env H = awOps PP [⟨some 17, none, .mov (.t 3)⟩, ⟨some 18, none, .mov (.t 0)⟩, ⟨some 19, none, .call (.c (.fn (.func 57) [] [])) [.t 18, .c (.int (.i64) 2)]⟩, ⟨some 20, none, .bsl false 64 2 1 (.struct [.int (.i64) 0, .nils]) [(0, .t 19)]⟩, ⟨some 21, none, .app 64 2 32 (.t 17) (.t 20)⟩, ⟨some 3, none, .mov (.t 21)⟩] (regK K [6, 15, 17, 18, 19, 20, 21]) (panK K) env H := aw_reg _ _
def grammarparser_reader_levels_c7 : AC := .reg [⟨some 23, none, .bin (.eql) (.t 6) (.c (.str [110, 111, 110, 101]))⟩, ⟨some 22, none, .mov (.t 23)⟩] [6, 15, 23]
@[simp] theorem grammarparser_reader_levels_c7_eq {K : AK} {env : Env} {H : AHeap} : aw PP grammarparser_reader_levels_c7 K env H = awOps PP [⟨some 23, none, .bin (.eql) (.t 6) (.c (.str [110, 111, 110, 101]))⟩, ⟨some 22, none, .mov (.t 23)⟩] (regK K [6, 15, 23]) (panK K) env H := aw_reg _ _
def grammarparser_reader_levels_c8 : AC := .reg [⟨some 24, none, .mov (.t 3)⟩, ⟨some 25, none, .mov (.t 0)⟩, ⟨some 26, none, .call (.c (.fn (.func 57) [] [])) [.t 25, .c (.int (.i64) 3)]⟩, ⟨some 27, none, .bsl false 64 2 1 (.struct [.int (.i64) 0, .nils]) [(0, .t 26)]⟩, ⟨some 28, none, .app 64 2 32 (.t 24) (.t 27)⟩, ⟨some 3, none, .mov (.t 28)⟩] [22, 24, 25, 26, 27, 28]
@[simp] theorem grammarparser_reader_levels_c8_eq {K : AK} {env : Env} {H : AHeap} : aw PP grammarparser_reader_levels_c8 K env H = awOps PP [⟨some 24, none, .mov (.t 3)⟩, ⟨some 25, none, .mov (.t 0)⟩, ⟨some 26, none, .call (.c (.fn (.func 57) [] [])) [.t 25, .c (.int (.i64) 3)]⟩, ⟨some 27, none, .bsl false 64 2 1 (.struct [.int (.i64) 0, .nils]) [(0, .t 26)]⟩, ⟨some 28, none, .app 64 2 32 (.t 24) (.t 27)⟩, ⟨some 3, none, .mov (.t 28)⟩] (regK K [22, 24, 25, 26, 27, 28]) (panK K) env H := aw_reg _ _
def grammarparser_reader_levels_c9 : AC := .reg [⟨some 7, none, .mov (.t 3)⟩, ⟨some 2, none, .mov (.t 7)⟩] [0, 3, 7, 22]
@[simp] theorem grammarparser_reader_levels_c9_eq {K : AK} {env : Env} {H : AHeap} : aw PP grammarparser_reader_levels_c9 K env H = awOps PP [⟨some 7, none, .mov (.t 3)⟩, ⟨some 2, none, .mov (.t 7)⟩] (regK K [0, 3, 7, 22]) (panK K) env H := aw_reg _ _
def grammarparser_reader_levels_c10 : AC := .seq grammarparser_reader_levels_c9 .ret
@[simp] theorem grammarparser_reader_levels_c10_eq {K : AK} {env : Env} {H : AHeap} : aw PP grammarparser_reader_levels_c10 K env H = aw PP grammarparser_reader_levels_c9 (seqK PP .ret K) env H := aw_seq grammarparser_reader_levels_c9 .ret
def grammarparser_reader_levels_c11 : AC := .cond (.t 22) grammarparser_reader_levels_c8 grammarparser_reader_levels_c10
@[simp] theorem grammarparser_reader_levels_c11_eq {K : AK} {env : Env} {H : AHeap} : aw PP grammarparser_reader_levels_c11 K env H = condQ PP (Opd.ev env (.t 22)) grammarparser_reader_levels_c8 grammarparser_reader_levels_c10 K env H := aw_cond _ grammarparser_reader_levels_c8 grammarparser_reader_levels_c10
def grammarparser_reader_levels_c12 : AC := .seq grammarparser_reader_levels_c7 grammarparser_reader_levels_c11
@[simp] theorem grammarparser_reader_levels_c12_eq {K : AK} {env : Env} {H : AHeap} : aw PP grammarparser_reader_levels_c12 K env H = aw PP grammarparser_reader_levels_c7 (seqK PP grammarparser_reader_levels_c11 K) env H := aw_seq grammarparser_reader_levels_c7 grammarparser_reader_levels_c11
def grammarparser_reader_levels_c13 : AC := .cond (.t 15) grammarparser_reader_levels_c6 grammarparser_reader_levels_c12
@[simp] theorem grammarparser_reader_levels_c13_eq {K : AK} {env : Env} {H : AHeap} : aw PP grammarparser_reader_levels_c13 K env H = condQ PP (Opd.ev env (.t 15)) grammarparser_reader_levels_c6 grammarparser_reader_levels_c12 K env H := aw_cond _ grammarparser_reader_levels_c6 grammarparser_reader_levels_c12
def grammarparser_reader_levels_c14 : AC := .seq grammarparser_reader_levels_c5 grammarparser_reader_levels_c13
@[simp] theorem grammarparser_reader_levels_c14_eq {K : AK} {env : Env} {H : AHeap} : aw PP grammarparser_reader_levels_c14 K env H = aw PP grammarparser_reader_levels_c5 (seqK PP grammarparser_reader_levels_c13 K) env H := aw_seq grammarparser_reader_levels_c5 grammarparser_reader_levels_c13
def grammarparser_reader_levels_c15 : AC := .cond (.t 8) grammarparser_reader_levels_c4 grammarparser_reader_levels_c14
@[simp] theorem grammarparser_reader_levels_c15_eq {K : AK} {env : Env} {H : AHeap} : aw PP grammarparser_reader_levels_c15 K env H = condQ PP (Opd.ev env (.t 8)) grammarparser_reader_levels_c4 grammarparser_reader_levels_c14 K env H := aw_cond _ grammarparser_reader_levels_c4 grammarparser_reader_levels_c14
def grammarparser_reader_levels_c16 : AC := .seq grammarparser_reader_levels_c3 grammarparser_reader_levels_c15
@[simp] theorem grammarparser_reader_levels_c16_eq {K : AK} {env : Env} {H : AHeap} : aw PP grammarparser_reader_levels_c16 K env H = aw PP grammarparser_reader_levels_c3 (seqK PP grammarparser_reader_levels_c15 K) env H := aw_seq grammarparser_reader_levels_c3 grammarparser_reader_levels_c15
def grammarparser_reader_levels_c17 : AC := .block 2 grammarparser_reader_levels_c16
@[simp] theorem grammarparser_reader_levels_c17_eq {K : AK} {env : Env} {H : AHeap} : aw PP grammarparser_reader_levels_c17 K env H = aw PP grammarparser_reader_levels_c16 (blockK 2 K) env H := aw_block _ grammarparser_reader_levels_c16
def grammarparser_reader_levels_c18 : AC := .seq grammarparser_reader_levels_c2 grammarparser_reader_levels_c17
@[simp] theorem grammarparser_reader_levels_c18_eq {K : AK} {env : Env} {H : AHeap} : aw PP grammarparser_reader_levels_c18 K env H = aw PP grammarparser_reader_levels_c2 (seqK PP grammarparser_reader_levels_c17 K) env H := aw_seq grammarparser_reader_levels_c2 grammarparser_reader_levels_c17
def grammarparser_reader_levels_c19 : AC := .block 1 grammarparser_reader_levels_c18
@[simp] theorem grammarparser_reader_levels_c19_eq {K : AK} {env : Env} {H : AHeap} : aw PP grammarparser_reader_levels_c19 K env H = aw PP grammarparser_reader_levels_c18 (blockK 1 K) env H := aw_block _ grammarparser_reader_levels_c18
def grammarparser_reader_levels_c20 : AC := .loop grammarparser_reader_levels_c19
def grammarparser_reader_levels_c21 : AC := .block 0 grammarparser_reader_levels_c20
@[simp] theorem grammarparser_reader_levels_c21_eq {K : AK} {env : Env} {H : AHeap} : aw PP grammarparser_reader_levels_c21 K env H = aw PP grammarparser_reader_levels_c20 (blockK 0 K) env H := aw_block _ grammarparser_reader_levels_c20
def grammarparser_reader_levels_c22 : AC := .seq grammarparser_reader_levels_c1 grammarparser_reader_levels_c21
@[simp] theorem grammarparser_reader_levels_c22_eq {K : AK} {env : Env} {H : AHeap} : aw PP grammarparser_reader_levels_c22 K env H = aw PP grammarparser_reader_levels_c1 (seqK PP grammarparser_reader_levels_c21 K) env H := aw_seq grammarparser_reader_levels_c1 grammarparser_reader_levels_c21
def grammarparser_reader_levels_c23 : AC := .seq grammarparser_reader_levels_c0 grammarparser_reader_levels_c22
@[simp] theorem grammarparser_reader_levels_c23_eq {K : AK} {env : Env} {H : AHeap} : aw PP grammarparser_reader_levels_c23 K env H = aw PP grammarparser_reader_levels_c0 (seqK PP grammarparser_reader_levels_c22 K) env H := aw_seq grammarparser_reader_levels_c0 grammarparser_reader_levels_c22
def grammarparser_reader_levels_ac : AC := grammarparser_reader_levels_c23
@[simp] theorem grammarparser_reader_levels_ac_eq {K : AK} {env : Env} {H : AHeap} : aw PP grammarparser_reader_levels_ac K env H = aw PP grammarparser_reader_levels_c23 K env H := Eq.trans rfl rfl
def grammarparser_reader_levels_rs : List ARV := [.tmp 2]
abbrev grammarparser_reader_levels_id : Nat := 22
theorem grammarparser_reader_levels_comp : compF PP grammarparser_reader_levels_kl grammarparser_reader_levels_ow 1 Try.f22 = some (grammarparser_reader_levels_ac, grammarparser_reader_levels_rs) := by kernel_rfl
theorem grammarparser_reader_levels_enter {args : List AV} {H : AHeap} {post : ARes → AHeap → Prop} (ha : args.length = 1) (h : aw PP grammarparser_reader_levels_ac (retK grammarparser_reader_levels_rs post) (argEnv 0 args) H) : ACalls PP grammarparser_reader_levels_id args H post := .enterF Try.func22 PP_mix grammarparser_reader_levels_comp ha h

/-! (*emendate.grammarparser.reader).rule -/
def grammarparser_reader_rule_kl : Nat → List Nat
  | 1 => [5, 6, 7]
  | 2 => [8, 9]
  | 3 => [10, 11, 12, 13, 14, 15]
  | 4 => [16, 17, 18]
  | 5 => [19, 20, 21]
  | 6 => [22, 23, 24, 25, 26, 27]
  | 7 => [4, 28, 29]
  | 8 => [0, 19, 30, 31]
  | 9 => [3, 32]
  | _ => []
def grammarparser_reader_rule_ow : Nat → Nat → Bool := fun a b => (a == 3 && b == 0)
def grammarparser_reader_rule_c0 : AC := .reg [⟨some 2, none, .alloc (.struct [.str [], .nils]) 44⟩] []
@[simp] theorem grammarparser_reader_rule_c0_eq {K : AK} {env : Env} {H : AHeap} : aw PP grammarparser_reader_rule_c0 K env H = awOps PP [⟨some 2, none, .alloc (.struct [.str [], .nils]) 44⟩] (regK K []) (panK K) env H := aw_reg _ _
def grammarparser_reader_rule_c1 : AC := .reg [⟨some 5, none, .mov (.t 0)⟩, ⟨some 6, none, .call (.c (.fn (.func 21) [] [])) [.t 5]⟩, ⟨some 7, none, .build [.str [], .nils] [(0, .t 6)]⟩, ⟨some 3, none, .alloc (.struct [.str [], .nils]) 44⟩, ⟨none, none, .st 2 (.t 3) (.t 7)⟩] [5, 6, 7]
@[simp] theorem grammarparser_reader_rule_c1_eq {K : AK} {env : Env} {H : AHeap} : aw PP grammarparser_reader_rule_c1 K env H = awOps PP [⟨some 5, none, .mov (.t 0)⟩, ⟨some 6, none, .call (.c (.fn (.func 21) [] [])) [.t 5]⟩, ⟨some 7, none, .build [.str [], .nils] [(0, .t 6)]⟩, ⟨some 3, none, .alloc (.struct [.str [], .nils]) 44⟩, ⟨none, none, .st 2 (.t 3) (.t 7)⟩] (regK K [5, 6, 7]) (panK K) env H := aw_reg _ _
def grammarparser_reader_rule_c2 : AC := .reg [⟨some 8, none, .mov (.t 0)⟩, ⟨some 9, none, .call (.c (.fn (.func 20) [] [])) [.t 8, .c (.str [61])]⟩] [8, 9]
@[simp] theorem grammarparser_reader_rule_c2_eq {K : AK} {env : Env} {H : AHeap} : aw PP grammarparser_reader_rule_c2 K env H = awOps PP [⟨some 8, none, .mov (.t 0)⟩, ⟨some 9, none, .call (.c (.fn (.func 20) [] [])) [.t 8, .c (.str [61])]⟩] (regK K [8, 9]) (panK K) env H := aw_reg _ _
def grammarparser_reader_rule_c3 : AC := .reg [⟨some 10, none, .bsl true 49 4 0 (.struct [.struct [.int (.i64) 0, .str [], .nils], .int (.i64) 0]) []⟩, ⟨some 11, none, .mov (.t 0)⟩, ⟨some 12, none, .call (.c (.fn (.func 58) [] [])) [.t 11]⟩, ⟨some 13, none, .bsl false 49 4 1 (.struct [.struct [.int (.i64) 0, .str [], .nils], .int (.i64) 0]) [(0, .t 12)]⟩, ⟨some 14, none, .app 49 4 56 (.t 10) (.t 13)⟩, ⟨some 15, none, .fa 1 1 (.t 3)⟩, ⟨none, none, .st 1 (.t 15) (.t 14)⟩] [10, 11, 12, 13, 14, 15]
@[simp] theorem grammarparser_reader_rule_c3_eq {K : AK} {env : Env} {H : AHeap} : aw PP grammarparser_reader_rule_c3 K env H = awOps PP [⟨some 10, none, .bsl true 49 4 0 (.struct [.struct [.int (.i64) 0, .str [], .nils], .int (.i64) 0]) []⟩, ⟨some 11, none, .mov (.t 0)⟩, ⟨some 12, none, .call (.c (.fn (.func 58) [] [])) [.t 11]⟩, ⟨some 13, none, .bsl false 49 4 1 (.struct [.struct [.int (.i64) 0, .str [], .nils], .int (.i64) 0]) [(0, .t 12)]⟩, ⟨some 14, none, .app 49 4 56 (.t 10) (.t 13)⟩, ⟨some 15, none, .fa 1 1 (.t 3)⟩, ⟨none, none, .st 1 (.t 15) (.t 14)⟩] (regK K [10, 11, 12, 13, 14, 15]) (panK K) env H := aw_reg _ _
def grammarparser_reader_rule_c4 : AC := .reg [⟨some 16, none, .mov (.t 0)⟩, ⟨some 17, none, .call (.c (.fn (.func 53) [] [])) [.t 16]⟩, ⟨some 18, none, .fld 1 1 1 false (.t 17)⟩, ⟨some 19, none, .bin (.eql) (.t 18) (.c (.str [124]))⟩] [16, 17, 18]
@[simp] theorem grammarparser_reader_rule_c4_eq {K : AK} {env : Env} {H : AHeap} : aw PP grammarparser_reader_rule_c4 K env H = awOps PP [⟨some 16, none, .mov (.t 0)⟩, ⟨some 17, none, .call (.c (.fn (.func 53) [] [])) [.t 16]⟩, ⟨some 18, none, .fld 1 1 1 false (.t 17)⟩, ⟨some 19, none, .bin (.eql) (.t 18) (.c (.str [124]))⟩] (regK K [16, 17, 18]) (panK K) env H := aw_reg _ _
def grammarparser_reader_rule_c5 : AC := .cond (.t 19) .skip (.exit 0)
@[simp] theorem grammarparser_reader_rule_c5_eq {K : AK} {env : Env} {H : AHeap} : aw PP grammarparser_reader_rule_c5 K env H = condQ PP (Opd.ev env (.t 19)) .skip (.exit 0) K env H := aw_cond _ .skip (.exit 0)
def grammarparser_reader_rule_c6 : AC := .seq grammarparser_reader_rule_c4 grammarparser_reader_rule_c5
@[simp] theorem grammarparser_reader_rule_c6_eq {K : AK} {env : Env} {H : AHeap} : aw PP grammarparser_reader_rule_c6 K env H = aw PP grammarparser_reader_rule_c4 (seqK PP grammarparser_reader_rule_c5 K) env H := aw_seq grammarparser_reader_rule_c4 grammarparser_reader_rule_c5
def grammarparser_reader_rule_c7 : AC := .reg [⟨some 20, none, .mov (.t 0)⟩, ⟨some 21, none, .call (.c (.fn (.func 55) [] [])) [.t 20]⟩] [19, 20, 21]
@[simp] theorem grammarparser_reader_rule_c7_eq {K : AK} {env : Env} {H : AHeap} : aw PP grammarparser_reader_rule_c7 K env H = awOps PP [⟨some 20, none, .mov (.t 0)⟩, ⟨some 21, none, .call (.c (.fn (.func 55) [] [])) [.t 20]⟩] (regK K [19, 20, 21]) (panK K) env H := aw_reg _ _
def grammarparser_reader_rule_c8_ops : List (AI × List Nat) := [(⟨some 22, none, .fa 1 1 (.t 3)⟩, []), (⟨some 23, none, .ld false 1 (.t 22)⟩, [0]), (⟨some 24, none, .mov (.t 0)⟩, []), (⟨some 25, none, .call (.c (.fn (.func 58) [] [])) [.t 24]⟩, [2]), (⟨some 26, none, .bsl false 49 4 1 (.struct [.struct [.int (.i64) 0, .str [], .nils], .int (.i64) 0]) [(0, .t 25)]⟩, [3]), (⟨some 27, none, .app 49 4 56 (.t 23) (.t 26)⟩, [1, 4, 3]), (⟨some 4, none, .mov (.t 27)⟩, [5, 5, 0, 1, 2, 3, 4, 5])]
def grammarparser_reader_rule_c8 : AC := .dreg grammarparser_reader_rule_c8_ops [22, 23, 24, 25, 26, 27]
theorem grammarparser_reader_rule_c8_ok : lexOK grammarparser_reader_rule_c8_ops (fun i => [5].contains i) = true := by kernel_rfl
theorem grammarparser_reader_rule_c8_lex {K : AK} {env : Env} {H : AHeap} (h : awLex PP (fun i => [5].contains i) (regK K [22, 23, 24, 25, 26, 27]) (panK K) [(0, ⟨some 22, none, .fa 1 1 (.t 3)⟩), (1, ⟨some 23, none, .ld false 1 (.t 22)⟩), (2, ⟨some 24, none, .mov (.t 0)⟩), (3, ⟨some 25, none, .call (.c (.fn (.func 58) [] [])) [.t 24]⟩), (4, ⟨some 26, none, .bsl false 49 4 1 (.struct [.struct [.int (.i64) 0, .str [], .nils], .int (.i64) 0]) [(0, .t 25)]⟩), (5, ⟨some 27, none, .app 49 4 56 (.t 23) (.t 26)⟩), (6, ⟨some 4, none, .mov (.t 27)⟩)] env H) : aw PP grammarparser_reader_rule_c8 K env H := aw_dreg_lex _ grammarparser_reader_rule_c8_ok h
theorem grammarparser_reader_rule_c8_okF : lexOKF grammarparser_reader_rule_c8_ops 5 (fun i => [3, 5].contains i) = true := by kernel_rfl
theorem grammarparser_reader_rule_c8_lexF {K : AK} {env : Env} {H : AHeap} (B : List Nat) (h : awLexF PP 5 (fun i => [3, 5].contains i) B H (regK K [22, 23, 24, 25, 26, 27]) (panK K) [(0, ⟨some 22, none, .fa 1 1 (.t 3)⟩), (1, ⟨some 23, none, .ld false 1 (.t 22)⟩), (2, ⟨some 24, none, .mov (.t 0)⟩), (3, ⟨some 25, none, .call (.c (.fn (.func 58) [] [])) [.t 24]⟩), (4, ⟨some 26, none, .bsl false 49 4 1 (.struct [.struct [.int (.i64) 0, .str [], .nils], .int (.i64) 0]) [(0, .t 25)]⟩), (5, ⟨some 27, none, .app 49 4 56 (.t 23) (.t 26)⟩), (6, ⟨some 4, none, .mov (.t 27)⟩)] env H) : aw PP grammarparser_reader_rule_c8 K env H := aw_dreg_lexF _ _ B grammarparser_reader_rule_c8_okF h
def grammarparser_reader_rule_c9 : AC := .reg [⟨some 28, none, .mov (.t 4)⟩, ⟨some 29, none, .fa 1 1 (.t 3)⟩, ⟨none, none, .st 1 (.t 29) (.t 28)⟩] [4, 28, 29]
@[simp] theorem grammarparser_reader_rule_c9_eq {K : AK} {env : Env} {H : AHeap} : aw PP grammarparser_reader_rule_c9 K env H = awOps PP [⟨some 28, none, .mov (.t 4)⟩, ⟨some 29, none, .fa 1 1 (.t 3)⟩, ⟨none, none, .st 1 (.t 29) (.t 28)⟩] (regK K [4, 28, 29]) (panK K) env H := aw_reg _ _
def grammarparser_reader_rule_c10 : AC := .seq grammarparser_reader_rule_c8 grammarparser_reader_rule_c9
@[simp] theorem grammarparser_reader_rule_c10_eq {K : AK} {env : Env} {H : AHeap} : aw PP grammarparser_reader_rule_c10 K env H = aw PP grammarparser_reader_rule_c8 (seqK PP grammarparser_reader_rule_c9 K) env H := aw_seq grammarparser_reader_rule_c8 grammarparser_reader_rule_c9
def grammarparser_reader_rule_c11 : AC := .seq grammarparser_reader_rule_c7 grammarparser_reader_rule_c10
@[simp] theorem grammarparser_reader_rule_c11_eq {K : AK} {env : Env} {H : AHeap} : aw PP grammarparser_reader_rule_c11 K env H = aw PP grammarparser_reader_rule_c7 (seqK PP grammarparser_reader_rule_c10 K) env H := aw_seq grammarparser_reader_rule_c7 grammarparser_reader_rule_c10
def grammarparser_reader_rule_c12 : AC := .block 1 grammarparser_reader_rule_c11
@[simp] theorem grammarparser_reader_rule_c12_eq {K : AK} {env : Env} {H : AHeap} : aw PP grammarparser_reader_rule_c12 K env H = aw PP grammarparser_reader_rule_c11 (blockK 1 K) env H := aw_block _ grammarparser_reader_rule_c11
def grammarparser_reader_rule_c13 : AC := .seq grammarparser_reader_rule_c6 grammarparser_reader_rule_c12
@[simp] theorem grammarparser_reader_rule_c13_eq {K : AK} {env : Env} {H : AHeap} : aw PP grammarparser_reader_rule_c13 K env H = aw PP grammarparser_reader_rule_c6 (seqK PP grammarparser_reader_rule_c12 K) env H := aw_seq grammarparser_reader_rule_c6 grammarparser_reader_rule_c12
def grammarparser_reader_rule_c14 : AC := .loop grammarparser_reader_rule_c13
def grammarparser_reader_rule_c15 : AC := .block 0 grammarparser_reader_rule_c14
@[simp] theorem grammarparser_reader_rule_c15_eq {K : AK} {env : Env} {H : AHeap} : aw PP grammarparser_reader_rule_c15 K env H = aw PP grammarparser_reader_rule_c14 (blockK 0 K) env H := aw_block _ grammarparser_reader_rule_c14
def grammarparser_reader_rule_c16 : AC := .reg [⟨some 30, none, .mov (.t 0)⟩, ⟨some 31, none, .call (.c (.fn (.func 20) [] [])) [.t 30, .c (.str [59])]⟩] [0, 19, 30, 31]
@[simp] theorem grammarparser_reader_rule_c16_eq {K : AK} {env : Env} {H : AHeap} : aw PP grammarparser_reader_rule_c16 K env H = awOps PP [⟨some 30, none, .mov (.t 0)⟩, ⟨some 31, none, .call (.c (.fn (.func 20) [] [])) [.t 30, .c (.str [59])]⟩] (regK K [0, 19, 30, 31]) (panK K) env H := aw_reg _ _
def grammarparser_reader_rule_c17 : AC := .reg [⟨some 32, none, .ld true 2 (.t 3)⟩, ⟨none, none, .st 2 (.t 2) (.t 32)⟩] [3, 32]
@[simp] theorem grammarparser_reader_rule_c17_eq {K : AK} {env : Env} {H : AHeap} : aw PP grammarparser_reader_rule_c17 K env H = awOps PP [⟨some 32, none, .ld true 2 (.t 3)⟩, ⟨none, none, .st 2 (.t 2) (.t 32)⟩] (regK K [3, 32]) (panK K) env H := aw_reg _ _
def grammarparser_reader_rule_c18 : AC := .seq grammarparser_reader_rule_c17 .ret
@[simp] theorem grammarparser_reader_rule_c18_eq {K : AK} {env : Env} {H : AHeap} : aw PP grammarparser_reader_rule_c18 K env H = aw PP grammarparser_reader_rule_c17 (seqK PP .ret K) env H := aw_seq grammarparser_reader_rule_c17 .ret
def grammarparser_reader_rule_c19 : AC := .seq grammarparser_reader_rule_c16 grammarparser_reader_rule_c18
@[simp] theorem grammarparser_reader_rule_c19_eq {K : AK} {env : Env} {H : AHeap} : aw PP grammarparser_reader_rule_c19 K env H = aw PP grammarparser_reader_rule_c16 (seqK PP grammarparser_reader_rule_c18 K) env H := aw_seq grammarparser_reader_rule_c16 grammarparser_reader_rule_c18
def grammarparser_reader_rule_c20 : AC := .seq grammarparser_reader_rule_c15 grammarparser_reader_rule_c19
@[simp] theorem grammarparser_reader_rule_c20_eq {K : AK} {env : Env} {H : AHeap} : aw PP grammarparser_reader_rule_c20 K env H = aw PP grammarparser_reader_rule_c15 (seqK PP grammarparser_reader_rule_c19 K) env H := aw_seq grammarparser_reader_rule_c15 grammarparser_reader_rule_c19
def grammarparser_reader_rule_c21 : AC := .seq grammarparser_reader_rule_c3 grammarparser_reader_rule_c20
@[simp] theorem grammarparser_reader_rule_c21_eq {K : AK} {env : Env} {H : AHeap} : aw PP grammarparser_reader_rule_c21 K env H = aw PP grammarparser_reader_rule_c3 (seqK PP grammarparser_reader_rule_c20 K) env H := aw_seq grammarparser_reader_rule_c3 grammarparser_reader_rule_c20
def grammarparser_reader_rule_c22 : AC := .seq grammarparser_reader_rule_c2 grammarparser_reader_rule_c21
@[simp] theorem grammarparser_reader_rule_c22_eq {K : AK} {env : Env} {H : AHeap} : aw PP grammarparser_reader_rule_c22 K env H = aw PP grammarparser_reader_rule_c2 (seqK PP grammarparser_reader_rule_c21 K) env H := aw_seq grammarparser_reader_rule_c2 grammarparser_reader_rule_c21
def grammarparser_reader_rule_c23 : AC := .seq grammarparser_reader_rule_c1 grammarparser_reader_rule_c22
@[simp] theorem grammarparser_reader_rule_c23_eq {K : AK} {env : Env} {H : AHeap} : aw PP grammarparser_reader_rule_c23 K env H = aw PP grammarparser_reader_rule_c1 (seqK PP grammarparser_reader_rule_c22 K) env H := aw_seq grammarparser_reader_rule_c1 grammarparser_reader_rule_c22
def grammarparser_reader_rule_c24 : AC := .seq grammarparser_reader_rule_c0 grammarparser_reader_rule_c23
@[simp] theorem grammarparser_reader_rule_c24_eq {K : AK} {env : Env} {H : AHeap} : aw PP grammarparser_reader_rule_c24 K env H = aw PP grammarparser_reader_rule_c0 (seqK PP grammarparser_reader_rule_c23 K) env H := aw_seq grammarparser_reader_rule_c0 grammarparser_reader_rule_c23
def grammarparser_reader_rule_ac : AC := grammarparser_reader_rule_c24
@[simp] theorem grammarparser_reader_rule_ac_eq {K : AK} {env : Env} {H : AHeap} : aw PP grammarparser_reader_rule_ac K env H = aw PP grammarparser_reader_rule_c24 K env H := Eq.trans rfl rfl
def grammarparser_reader_rule_rs : List ARV := [.cell 2 true 2]
abbrev grammarparser_reader_rule_id : Nat := 23
theorem grammarparser_reader_rule_comp : compF PP grammarparser_reader_rule_kl grammarparser_reader_rule_ow 1 Try.f23 = some (grammarparser_reader_rule_ac, grammarparser_reader_rule_rs) := by kernel_rfl
theorem grammarparser_reader_rule_enter {args : List AV} {H : AHeap} {post : ARes → AHeap → Prop} (ha : args.length = 1) (h : aw PP grammarparser_reader_rule_ac (retK grammarparser_reader_rule_rs post) (argEnv 0 args) H) : ACalls PP grammarparser_reader_rule_id args H post := .enterF Try.func23 PP_mix grammarparser_reader_rule_comp ha h

/-! emendate.grammarfile.Valid -/
def grammarfile_Valid_kl : Nat → List Nat
  | 0 => [0, 2]
  | 1 => [9, 10, 11, 12, 13, 14, 15, 16, 17]
  | 2 => [1, 18]
  | 3 => [18]
  | 4 => [19]
  | 6 => [23, 24, 25]
  | 7 => [26, 27]
  | 8 => [1, 3, 4, 6, 20, 21, 22, 28]
  | 9 => [6, 28, 29, 30, 31, 32, 33]
  | 10 => [34]
  | 11 => [20, 21, 22, 23, 35]
  | 13 => [39, 40, 41]
  | 14 => [42, 43, 44, 45, 46, 47, 48, 49, 50, 51, 52, 53, 54]
  | 15 => [1, 3, 4, 8, 36, 37, 38, 55]
  | 16 => [8, 55, 56, 57, 58, 59]
  | 17 => [60]
  | 18 => [1, 3, 4, 36, 37, 38, 39, 61, 62, 63, 64, 65, 66, 67, 68, 69, 70, 71, 72]
  | _ => []
def grammarfile_Valid_ow : Nat → Nat → Bool := fun _ _ => false
def grammarfile_Valid_c0 : AC := .reg [⟨some 1, none, .box (.t 0) 3 26⟩, ⟨some 2, none, .mov (.c (.bool false))⟩] [0, 2]
@[simp] theorem grammarfile_Valid_c0_eq {K : AK} {env : Env} {H : AHeap} : aw PP grammarfile_Valid_c0 K env H = awOps PP [⟨some 1, none, .box (.t 0) 3 26⟩, ⟨some 2, none, .mov (.c (.bool false))⟩] (regK K [0, 2]) (panK K) env H := aw_reg _ _
def grammarfile_Valid_c1 : AC := .reg [⟨some 9, none, .fa 2 2 (.t 1)⟩, ⟨some 10, none, .ld false 1 (.t 9)⟩, ⟨some 11, none, .lenl (.t 10)⟩, ⟨some 12, none, .bin (.lss) (.t 11) (.c (.int (.i64) 1))⟩, ⟨some 13, none, .mov (.t 12)⟩, ⟨some 14, some (13, false), .fa 2 2 (.t 1)⟩, ⟨some 15, some (13, false), .ld false 1 (.t 14)⟩, ⟨some 16, some (13, false), .lenl (.t 15)⟩, ⟨some 17, some (13, false), .bin (.gtr) (.t 16) (.c (.int (.i64) 120))⟩, ⟨some 18, none, .pick (.t 13) (.c (.bool true)) (.t 17)⟩] [9, 10, 11, 12, 13, 14, 15, 16, 17]
@[simp] theorem grammarfile_Valid_c1_eq {K : AK} {env : Env} {H : AHeap} : aw PP grammarfile_Valid_c1 K env H = awOps PP [⟨some 9, none, .fa 2 2 (.t 1)⟩, ⟨some 10, none, .ld false 1 (.t 9)⟩, ⟨some 11, none, .lenl (.t 10)⟩, ⟨some 12, none, .bin (.lss) (.t 11) (.c (.int (.i64) 1))⟩, ⟨some 13, none, .mov (.t 12)⟩, ⟨some 14, some (13, false), .fa 2 2 (.t 1)⟩, ⟨some 15, some (13, false), .ld false 1 (.t 14)⟩, ⟨some 16, some (13, false), .lenl (.t 15)⟩, ⟨some 17, some (13, false), .bin (.gtr) (.t 16) (.c (.int (.i64) 120))⟩, ⟨some 18, none, .pick (.t 13) (.c (.bool true)) (.t 17)⟩] (regK K [9, 10, 11, 12, 13, 14, 15, 16, 17]) (panK K) env H := aw_reg _ _
def grammarfile_Valid_c2 : AC := .reg [⟨some 2, none, .mov (.c (.bool false))⟩] [1, 18]
@[simp] theorem grammarfile_Valid_c2_eq {K : AK} {env : Env} {H : AHeap} : aw PP grammarfile_Valid_c2 K env H = awOps PP [⟨some 2, none, .mov (.c (.bool false))⟩] (regK K [1, 18]) (panK K) env H := aw_reg _ _
def grammarfile_Valid_c3 : AC := .seq grammarfile_Valid_c2 .ret
@[simp] theorem grammarfile_Valid_c3_eq {K : AK} {env : Env} {H : AHeap} : aw PP grammarfile_Valid_c3 K env H = aw PP grammarfile_Valid_c2 (seqK PP .ret K) env H := aw_seq grammarfile_Valid_c2 .ret
def grammarfile_Valid_c4 : AC := .cond (.t 18) grammarfile_Valid_c3 .skip
@[simp] theorem grammarfile_Valid_c4_eq {K : AK} {env : Env} {H : AHeap} : aw PP grammarfile_Valid_c4 K env H = condQ PP (Opd.ev env (.t 18)) grammarfile_Valid_c3 .skip K env H := aw_cond _ grammarfile_Valid_c3 .skip
def grammarfile_Valid_c5 : AC := .seq grammarfile_Valid_c1 grammarfile_Valid_c4
@[simp] theorem grammarfile_Valid_c5_eq {K : AK} {env : Env} {H : AHeap} : aw PP grammarfile_Valid_c5 K env H = aw PP grammarfile_Valid_c1 (seqK PP grammarfile_Valid_c4 K) env H := aw_seq grammarfile_Valid_c1 grammarfile_Valid_c4
def grammarfile_Valid_c6 : AC := .reg [⟨some 3, none, .mov (.c (.nils))⟩, ⟨some 4, none, .mov (.c (.nils))⟩] [18]
@[simp] theorem grammarfile_Valid_c6_eq {K : AK} {env : Env} {H : AHeap} : aw PP grammarfile_Valid_c6 K env H = awOps PP [⟨some 3, none, .mov (.c (.nils))⟩, ⟨some 4, none, .mov (.c (.nils))⟩] (regK K [18]) (panK K) env H := aw_reg _ _
def grammarfile_Valid_c7 : AC := .reg [⟨some 19, none, .fa 2 2 (.t 1)⟩, ⟨some 20, none, .ld false 1 (.t 19)⟩, ⟨some 21, none, .lenl (.t 20)⟩, ⟨some 22, none, .mov (.c (.int (.i64) 0))⟩] [19]
@[simp] theorem grammarfile_Valid_c7_eq {K : AK} {env : Env} {H : AHeap} : aw PP grammarfile_Valid_c7 K env H = awOps PP [⟨some 19, none, .fa 2 2 (.t 1)⟩, ⟨some 20, none, .ld false 1 (.t 19)⟩, ⟨some 21, none, .lenl (.t 20)⟩, ⟨some 22, none, .mov (.c (.int (.i64) 0))⟩] (regK K [19]) (panK K) env H := aw_reg _ _
def grammarfile_Valid_c8 : AC := .reg [⟨some 23, none, .bin (.lss) (.t 22) (.t 21)⟩] []
@[simp] theorem grammarfile_Valid_c8_eq {K : AK} {env : Env} {H : AHeap} : aw PP grammarfile_Valid_c8 K env H = awOps PP [⟨some 23, none, .bin (.lss) (.t 22) (.t 21)⟩] (regK K []) (panK K) env H := aw_reg _ _
def grammarfile_Valid_c9 : AC := .cond (.t 23) .skip (.exit 0)
@[simp] theorem grammarfile_Valid_c9_eq {K : AK} {env : Env} {H : AHeap} : aw PP grammarfile_Valid_c9 K env H = condQ PP (Opd.ev env (.t 23)) .skip (.exit 0) K env H := aw_cond _ .skip (.exit 0)
def grammarfile_Valid_c10 : AC := .reg [⟨some 24, none, .ixa 2 (.t 20) (.t 22)⟩, ⟨some 25, none, .ld true 2 (.t 24)⟩, ⟨some 6, none, .alloc (.struct [.str [], .nils]) 44⟩, ⟨none, none, .st 2 (.t 6) (.t 25)⟩] [23, 24, 25]
@[simp] theorem grammarfile_Valid_c10_eq {K : AK} {env : Env} {H : AHeap} : aw PP grammarfile_Valid_c10 K env H = awOps PP [⟨some 24, none, .ixa 2 (.t 20) (.t 22)⟩, ⟨some 25, none, .ld true 2 (.t 24)⟩, ⟨some 6, none, .alloc (.struct [.str [], .nils]) 44⟩, ⟨none, none, .st 2 (.t 6) (.t 25)⟩] (regK K [23, 24, 25]) (panK K) env H := aw_reg _ _
def grammarfile_Valid_c11 : AC := .reg [⟨some 26, none, .ld true 2 (.t 6)⟩, ⟨some 27, none, .call (.c (.fn (.func 59) [] [])) [.t 26]⟩, ⟨some 28, none, .not (.t 27)⟩] [26, 27]
@[simp] theorem grammarfile_Valid_c11_eq {K : AK} {env : Env} {H : AHeap} : aw PP grammarfile_Valid_c11 K env H = awOps PP [⟨some 26, none, .ld true 2 (.t 6)⟩, ⟨some 27, none, .call (.c (.fn (.func 59) [] [])) [.t 26]⟩, ⟨some 28, none, .not (.t 27)⟩] (regK K [26, 27]) (panK K) env H := aw_reg _ _
def grammarfile_Valid_c12 : AC := .reg [⟨some 2, none, .mov (.c (.bool false))⟩] [1, 3, 4, 6, 20, 21, 22, 28]
@[simp] theorem grammarfile_Valid_c12_eq {K : AK} {env : Env} {H : AHeap} : aw PP grammarfile_Valid_c12 K env H = awOps PP [⟨some 2, none, .mov (.c (.bool false))⟩] (regK K [1, 3, 4, 6, 20, 21, 22, 28]) (panK K) env H := aw_reg _ _
def grammarfile_Valid_c13 : AC := .seq grammarfile_Valid_c12 .ret
@[simp] theorem grammarfile_Valid_c13_eq {K : AK} {env : Env} {H : AHeap} : aw PP grammarfile_Valid_c13 K env H = aw PP grammarfile_Valid_c12 (seqK PP .ret K) env H := aw_seq grammarfile_Valid_c12 .ret
def grammarfile_Valid_c14 : AC := .cond (.t 28) grammarfile_Valid_c13 .skip
@[simp] theorem grammarfile_Valid_c14_eq {K : AK} {env : Env} {H : AHeap} : aw PP grammarfile_Valid_c14 K env H = condQ PP (Opd.ev env (.t 28)) grammarfile_Valid_c13 .skip K env H := aw_cond _ grammarfile_Valid_c13 .skip
def grammarfile_Valid_c15 : AC := .seq grammarfile_Valid_c11 grammarfile_Valid_c14
@[simp] theorem grammarfile_Valid_c15_eq {K : AK} {env : Env} {H : AHeap} : aw PP grammarfile_Valid_c15 K env H = aw PP grammarfile_Valid_c11 (seqK PP grammarfile_Valid_c14 K) env H := aw_seq grammarfile_Valid_c11 grammarfile_Valid_c14
def grammarfile_Valid_c16 : AC := .reg [⟨some 29, none, .mov (.t 3)⟩, ⟨some 30, none, .fa 0 0 (.t 6)⟩, ⟨some 31, none, .ld false 1 (.t 30)⟩, ⟨some 32, none, .bsl false 9 1 1 (.str []) [(0, .t 31)]⟩, ⟨some 33, none, .app 9 1 16 (.t 29) (.t 32)⟩, ⟨some 3, none, .mov (.t 33)⟩] [6, 28, 29, 30, 31, 32, 33]
@[simp] theorem grammarfile_Valid_c16_eq {K : AK} {env : Env} {H : AHeap} : aw PP grammarfile_Valid_c16 K env H = awOps PP [⟨some 29, none, .mov (.t 3)⟩, ⟨some 30, none, .fa 0 0 (.t 6)⟩, ⟨some 31, none, .ld false 1 (.t 30)⟩, ⟨some 32, none, .bsl false 9 1 1 (.str []) [(0, .t 31)]⟩, ⟨some 33, none, .app 9 1 16 (.t 29) (.t 32)⟩, ⟨some 3, none, .mov (.t 33)⟩] (regK K [6, 28, 29, 30, 31, 32, 33]) (panK K) env H := aw_reg _ _
def grammarfile_Valid_c17 : AC := .seq grammarfile_Valid_c15 grammarfile_Valid_c16
@[simp] theorem grammarfile_Valid_c17_eq {K : AK} {env : Env} {H : AHeap} : aw PP grammarfile_Valid_c17 K env H = aw PP grammarfile_Valid_c15 (seqK PP grammarfile_Valid_c16 K) env H := aw_seq grammarfile_Valid_c15 grammarfile_Valid_c16
def grammarfile_Valid_c18 : AC := .seq grammarfile_Valid_c10 grammarfile_Valid_c17
@[simp] theorem grammarfile_Valid_c18_eq {K : AK} {env : Env} {H : AHeap} : aw PP grammarfile_Valid_c18 K env H = aw PP grammarfile_Valid_c10 (seqK PP grammarfile_Valid_c17 K) env H := aw_seq grammarfile_Valid_c10 grammarfile_Valid_c17
def grammarfile_Valid_c19 : AC := .block 1 grammarfile_Valid_c18
@[simp] theorem grammarfile_Valid_c19_eq {K : AK} {env : Env} {H : AHeap} : aw PP grammarfile_Valid_c19 K env H = aw PP grammarfile_Valid_c18 (blockK 1 K) env H := aw_block _ grammarfile_Valid_c18
def grammarfile_Valid_c20 : AC := .reg [⟨some 34, none, .bin (.add) (.t 22) (.c (.int (.i64) 1))⟩, ⟨some 22, none, .mov (.t 34)⟩] [34]
@[simp] theorem grammarfile_Valid_c20_eq {K : AK} {env : Env} {H : AHeap} : aw PP grammarfile_Valid_c20 K env H = awOps PP [⟨some 34, none, .bin (.add) (.t 22) (.c (.int (.i64) 1))⟩, ⟨some 22, none, .mov (.t 34)⟩] (regK K [34]) (panK K) env H := aw_reg _ _
def grammarfile_Valid_c21 : AC := .seq grammarfile_Valid_c19 grammarfile_Valid_c20
@[simp] theorem grammarfile_Valid_c21_eq {K : AK} {env : Env} {H : AHeap} : aw PP grammarfile_Valid_c21 K env H = aw PP grammarfile_Valid_c19 (seqK PP grammarfile_Valid_c20 K) env H := aw_seq grammarfile_Valid_c19 grammarfile_Valid_c20
def grammarfile_Valid_c22 : AC := .seq grammarfile_Valid_c9 grammarfile_Valid_c21
@[simp] theorem grammarfile_Valid_c22_eq {K : AK} {env : Env} {H : AHeap} : aw PP grammarfile_Valid_c22 K env H = aw PP grammarfile_Valid_c9 (seqK PP grammarfile_Valid_c21 K) env H := aw_seq grammarfile_Valid_c9 grammarfile_Valid_c21
def grammarfile_Valid_c23 : AC := .seq grammarfile_Valid_c8 grammarfile_Valid_c22
@[simp] theorem grammarfile_Valid_c23_eq {K : AK} {env : Env} {H : AHeap} : aw PP grammarfile_Valid_c23 K env H = aw PP grammarfile_Valid_c8 (seqK PP grammarfile_Valid_c22 K) env H := aw_seq grammarfile_Valid_c8 grammarfile_Valid_c22
def grammarfile_Valid_c24 : AC := .loop grammarfile_Valid_c23
def grammarfile_Valid_c25 : AC := .block 0 grammarfile_Valid_c24
@[simp] theorem grammarfile_Valid_c25_eq {K : AK} {env : Env} {H : AHeap} : aw PP grammarfile_Valid_c25 K env H = aw PP grammarfile_Valid_c24 (blockK 0 K) env H := aw_block _ grammarfile_Valid_c24
def grammarfile_Valid_c26 : AC := .seq grammarfile_Valid_c7 grammarfile_Valid_c25
@[simp] theorem grammarfile_Valid_c26_eq {K : AK} {env : Env} {H : AHeap} : aw PP grammarfile_Valid_c26 K env H = aw PP grammarfile_Valid_c7 (seqK PP grammarfile_Valid_c25 K) env H := aw_seq grammarfile_Valid_c7 grammarfile_Valid_c25
def grammarfile_Valid_c27 : AC := .reg [⟨some 35, none, .fa 1 1 (.t 1)⟩, ⟨some 36, none, .ld false 1 (.t 35)⟩, ⟨some 37, none, .lenl (.t 36)⟩, ⟨some 38, none, .mov (.c (.int (.i64) 0))⟩] [20, 21, 22, 23, 35]
@[simp] theorem grammarfile_Valid_c27_eq {K : AK} {env : Env} {H : AHeap} : aw PP grammarfile_Valid_c27 K env H = awOps PP [⟨some 35, none, .fa 1 1 (.t 1)⟩, ⟨some 36, none, .ld false 1 (.t 35)⟩, ⟨some 37, none, .lenl (.t 36)⟩, ⟨some 38, none, .mov (.c (.int (.i64) 0))⟩] (regK K [20, 21, 22, 23, 35]) (panK K) env H := aw_reg _ _
def grammarfile_Valid_c28 : AC := .reg [⟨some 39, none, .bin (.lss) (.t 38) (.t 37)⟩] []
@[simp] theorem grammarfile_Valid_c28_eq {K : AK} {env : Env} {H : AHeap} : aw PP grammarfile_Valid_c28 K env H = awOps PP [⟨some 39, none, .bin (.lss) (.t 38) (.t 37)⟩] (regK K []) (panK K) env H := aw_reg _ _
def grammarfile_Valid_c29 : AC := .cond (.t 39) .skip (.exit 2)
@[simp] theorem grammarfile_Valid_c29_eq {K : AK} {env : Env} {H : AHeap} : aw PP grammarfile_Valid_c29 K env H = condQ PP (Opd.ev env (.t 39)) .skip (.exit 2) K env H := aw_cond _ .skip (.exit 2)
def grammarfile_Valid_c30 : AC := .reg [⟨some 40, none, .ixa 2 (.t 36) (.t 38)⟩, ⟨some 41, none, .ld true 2 (.t 40)⟩, ⟨some 8, none, .alloc (.struct [.int (.i64) 0, .nils]) 64⟩, ⟨none, none, .st 2 (.t 8) (.t 41)⟩] [39, 40, 41]
@[simp] theorem grammarfile_Valid_c30_eq {K : AK} {env : Env} {H : AHeap} : aw PP grammarfile_Valid_c30 K env H = awOps PP [⟨some 40, none, .ixa 2 (.t 36) (.t 38)⟩, ⟨some 41, none, .ld true 2 (.t 40)⟩, ⟨some 8, none, .alloc (.struct [.int (.i64) 0, .nils]) 64⟩, ⟨none, none, .st 2 (.t 8) (.t 41)⟩] (regK K [39, 40, 41]) (panK K) env H := aw_reg _ _
def grammarfile_Valid_c31 : AC := .reg [⟨some 42, none, .fa 0 0 (.t 8)⟩, ⟨some 43, none, .ld false 1 (.t 42)⟩, ⟨some 44, none, .bin (.lss) (.t 43) (.c (.int (.i64) 1))⟩, ⟨some 45, none, .mov (.t 44)⟩, ⟨some 46, some (45, false), .fa 0 0 (.t 8)⟩, ⟨some 47, some (45, false), .ld false 1 (.t 46)⟩, ⟨some 48, some (45, false), .bin (.gtr) (.t 47) (.c (.int (.i64) 3))⟩, ⟨some 49, none, .pick (.t 45) (.c (.bool true)) (.t 48)⟩, ⟨some 50, none, .mov (.t 49)⟩, ⟨some 51, some (50, false), .fa 1 1 (.t 8)⟩, ⟨some 52, some (50, false), .ld false 1 (.t 51)⟩, ⟨some 53, some (50, false), .lenl (.t 52)⟩, ⟨some 54, some (50, false), .bin (.eql) (.t 53) (.c (.int (.i64) 0))⟩, ⟨some 55, none, .pick (.t 50) (.c (.bool true)) (.t 54)⟩] [42, 43, 44, 45, 46, 47, 48, 49, 50, 51, 52, 53, 54]
@[simp] theorem grammarfile_Valid_c31_eq {K : AK} {env : Env} {H : AHeap} : aw PP grammarfile_Valid_c31 K env H = awOps PP [⟨some 42, none, .fa 0 0 (.t 8)⟩, ⟨some 43, none, .ld false 1 (.t 42)⟩, ⟨some 44, none, .bin (.lss) (.t 43) (.c (.int (.i64) 1))⟩, ⟨some 45, none, .mov (.t 44)⟩, ⟨some 46, some (45, false), .fa 0 0 (.t 8)⟩, ⟨some 47, some (45, false), .ld false 1 (.t 46)⟩, ⟨some 48, some (45, false), .bin (.gtr) (.t 47) (.c (.int (.i64) 3))⟩, ⟨some 49, none, .pick (.t 45) (.c (.bool true)) (.t 48)⟩, ⟨some 50, none, .mov (.t 49)⟩, ⟨some 51, some (50, false), .fa 1 1 (.t 8)⟩, ⟨some 52, some (50, false), .ld false 1 (.t 51)⟩, ⟨some 53, some (50, false), .lenl (.t 52)⟩, ⟨some 54, some (50, false), .bin (.eql) (.t 53) (.c (.int (.i64) 0))⟩, ⟨some 55, none, .pick (.t 50) (.c (.bool true)) (.t 54)⟩] (regK K [42, 43, 44, 45, 46, 47, 48, 49, 50, 51, 52, 53, 54]) (panK K) env H := aw_reg _ _
def grammarfile_Valid_c32 : AC := .reg [⟨some 2, none, .mov (.c (.bool false))⟩] [1, 3, 4, 8, 36, 37, 38, 55]
@[simp] theorem grammarfile_Valid_c32_eq {K : AK} {env : Env} {H : AHeap} : aw PP grammarfile_Valid_c32 K env H = awOps PP [⟨some 2, none, .mov (.c (.bool false))⟩] (regK K [1, 3, 4, 8, 36, 37, 38, 55]) (panK K) env H := aw_reg _ _
def grammarfile_Valid_c33 : AC := .seq grammarfile_Valid_c32 .ret
@[simp] theorem grammarfile_Valid_c33_eq {K : AK} {env : Env} {H : AHeap} : aw PP grammarfile_Valid_c33 K env H = aw PP grammarfile_Valid_c32 (seqK PP .ret K) env H := aw_seq grammarfile_Valid_c32 .ret
def grammarfile_Valid_c34 : AC := .cond (.t 55) grammarfile_Valid_c33 .skip
@[simp] theorem grammarfile_Valid_c34_eq {K : AK} {env : Env} {H : AHeap} : aw PP grammarfile_Valid_c34 K env H = condQ PP (Opd.ev env (.t 55)) grammarfile_Valid_c33 .skip K env H := aw_cond _ grammarfile_Valid_c33 .skip
def grammarfile_Valid_c35 : AC := .seq grammarfile_Valid_c31 grammarfile_Valid_c34
@[simp] theorem grammarfile_Valid_c35_eq {K : AK} {env : Env} {H : AHeap} : aw PP grammarfile_Valid_c35 K env H = aw PP grammarfile_Valid_c31 (seqK PP grammarfile_Valid_c34 K) env H := aw_seq grammarfile_Valid_c31 grammarfile_Valid_c34
def grammarfile_Valid_c36 : AC := .reg [⟨some 56, none, .mov (.t 4)⟩, ⟨some 57, none, .fa 1 1 (.t 8)⟩, ⟨some 58, none, .ld false 1 (.t 57)⟩, ⟨some 59, none, .app 9 1 16 (.t 56) (.t 58)⟩, ⟨some 4, none, .mov (.t 59)⟩] [8, 55, 56, 57, 58, 59]
@[simp] theorem grammarfile_Valid_c36_eq {K : AK} {env : Env} {H : AHeap} : aw PP grammarfile_Valid_c36 K env H = awOps PP [⟨some 56, none, .mov (.t 4)⟩, ⟨some 57, none, .fa 1 1 (.t 8)⟩, ⟨some 58, none, .ld false 1 (.t 57)⟩, ⟨some 59, none, .app 9 1 16 (.t 56) (.t 58)⟩, ⟨some 4, none, .mov (.t 59)⟩] (regK K [8, 55, 56, 57, 58, 59]) (panK K) env H := aw_reg _ _
def grammarfile_Valid_c37 : AC := .seq grammarfile_Valid_c35 grammarfile_Valid_c36
@[simp] theorem grammarfile_Valid_c37_eq {K : AK} {env : Env} {H : AHeap} : aw PP grammarfile_Valid_c37 K env H = aw PP grammarfile_Valid_c35 (seqK PP grammarfile_Valid_c36 K) env H := aw_seq grammarfile_Valid_c35 grammarfile_Valid_c36
def grammarfile_Valid_c38 : AC := .seq grammarfile_Valid_c30 grammarfile_Valid_c37
@[simp] theorem grammarfile_Valid_c38_eq {K : AK} {env : Env} {H : AHeap} : aw PP grammarfile_Valid_c38 K env H = aw PP grammarfile_Valid_c30 (seqK PP grammarfile_Valid_c37 K) env H := aw_seq grammarfile_Valid_c30 grammarfile_Valid_c37
def grammarfile_Valid_c39 : AC := .block 3 grammarfile_Valid_c38
@[simp] theorem grammarfile_Valid_c39_eq {K : AK} {env : Env} {H : AHeap} : aw PP grammarfile_Valid_c39 K env H = aw PP grammarfile_Valid_c38 (blockK 3 K) env H := aw_block _ grammarfile_Valid_c38
def grammarfile_Valid_c40 : AC := .reg [⟨some 60, none, .bin (.add) (.t 38) (.c (.int (.i64) 1))⟩, ⟨some 38, none, .mov (.t 60)⟩] [60]
@[simp] theorem grammarfile_Valid_c40_eq {K : AK} {env : Env} {H : AHeap} : aw PP grammarfile_Valid_c40 K env H = awOps PP [⟨some 60, none, .bin (.add) (.t 38) (.c (.int (.i64) 1))⟩, ⟨some 38, none, .mov (.t 60)⟩] (regK K [60]) (panK K) env H := aw_reg _ _
def grammarfile_Valid_c41 : AC := .seq grammarfile_Valid_c39 grammarfile_Valid_c40
@[simp] theorem grammarfile_Valid_c41_eq {K : AK} {env : Env} {H : AHeap} : aw PP grammarfile_Valid_c41 K env H = aw PP grammarfile_Valid_c39 (seqK PP grammarfile_Valid_c40 K) env H := aw_seq grammarfile_Valid_c39 grammarfile_Valid_c40
def grammarfile_Valid_c42 : AC := .seq grammarfile_Valid_c29 grammarfile_Valid_c41
@[simp] theorem grammarfile_Valid_c42_eq {K : AK} {env : Env} {H : AHeap} : aw PP grammarfile_Valid_c42 K env H = aw PP grammarfile_Valid_c29 (seqK PP grammarfile_Valid_c41 K) env H := aw_seq grammarfile_Valid_c29 grammarfile_Valid_c41
def grammarfile_Valid_c43 : AC := .seq grammarfile_Valid_c28 grammarfile_Valid_c42
@[simp] theorem grammarfile_Valid_c43_eq {K : AK} {env : Env} {H : AHeap} : aw PP grammarfile_Valid_c43 K env H = aw PP grammarfile_Valid_c28 (seqK PP grammarfile_Valid_c42 K) env H := aw_seq grammarfile_Valid_c28 grammarfile_Valid_c42
def grammarfile_Valid_c44 : AC := .loop grammarfile_Valid_c43
def grammarfile_Valid_c45 : AC := .block 2 grammarfile_Valid_c44
@[simp] theorem grammarfile_Valid_c45_eq {K : AK} {env : Env} {H : AHeap} : aw PP grammarfile_Valid_c45 K env H = aw PP grammarfile_Valid_c44 (blockK 2 K) env H := aw_block _ grammarfile_Valid_c44
def grammarfile_Valid_c46 : AC := .seq grammarfile_Valid_c27 grammarfile_Valid_c45
@[simp] theorem grammarfile_Valid_c46_eq {K : AK} {env : Env} {H : AHeap} : aw PP grammarfile_Valid_c46 K env H = aw PP grammarfile_Valid_c27 (seqK PP grammarfile_Valid_c45 K) env H := aw_seq grammarfile_Valid_c27 grammarfile_Valid_c45
def grammarfile_Valid_c47 : AC := .reg [⟨some 61, none, .mov (.t 3)⟩, ⟨some 62, none, .call (.c (.fn (.func 60) [] [])) [.t 61]⟩, ⟨some 63, none, .mov (.t 62)⟩, ⟨some 64, some (63, true), .mov (.t 4)⟩, ⟨some 65, some (63, true), .call (.c (.fn (.func 60) [] [])) [.t 64]⟩, ⟨some 66, none, .pick (.t 63) (.t 65) (.c (.bool false))⟩, ⟨some 67, none, .mov (.t 66)⟩, ⟨some 68, some (67, true), .mov (.t 3)⟩, ⟨some 69, some (67, true), .fa 0 0 (.t 1)⟩, ⟨some 70, some (67, true), .ld false 1 (.t 69)⟩, ⟨some 71, some (67, true), .call (.c (.fn (.func 61) [] [])) [.t 68, .t 70]⟩, ⟨some 72, none, .pick (.t 67) (.t 71) (.c (.bool false))⟩, ⟨some 2, none, .mov (.t 72)⟩] [1, 3, 4, 36, 37, 38, 39, 61, 62, 63, 64, 65, 66, 67, 68, 69, 70, 71, 72]
@[simp] theorem grammarfile_Valid_c47_eq {K : AK} {env : Env} {H : AHeap} : aw PP grammarfile_Valid_c47 K env H = awOps PP [⟨some 61, none, .mov (.t 3)⟩, ⟨some 62, none, .call (.c (.fn (.func 60) [] [])) [.t 61]⟩, ⟨some 63, none, .mov (.t 62)⟩, ⟨some 64, some (63, true), .mov (.t 4)⟩, ⟨some 65, some (63, true), .call (.c (.fn (.func 60) [] [])) [.t 64]⟩, ⟨some 66, none, .pick (.t 63) (.t 65) (.c (.bool false))⟩, ⟨some 67, none, .mov (.t 66)⟩, ⟨some 68, some (67, true), .mov (.t 3)⟩, ⟨some 69, some (67, true), .fa 0 0 (.t 1)⟩, ⟨some 70, some (67, true), .ld false 1 (.t 69)⟩, ⟨some 71, some (67, true), .call (.c (.fn (.func 61) [] [])) [.t 68, .t 70]⟩, ⟨some 72, none, .pick (.t 67) (.t 71) (.c (.bool false))⟩, ⟨some 2, none, .mov (.t 72)⟩] (regK K [1, 3, 4, 36, 37, 38, 39, 61, 62, 63, 64, 65, 66, 67, 68, 69, 70, 71, 72]) (panK K) env H := aw_reg _ _
def grammarfile_Valid_c48 : AC := .seq grammarfile_Valid_c47 .ret
@[simp] theorem grammarfile_Valid_c48_eq {K : AK} {env : Env} {H : AHeap} : aw PP grammarfile_Valid_c48 K env H = aw PP grammarfile_Valid_c47 (seqK PP .ret K) env H := aw_seq grammarfile_Valid_c47 .ret
def grammarfile_Valid_c49 : AC := .seq grammarfile_Valid_c46 grammarfile_Valid_c48
@[simp] theorem grammarfile_Valid_c49_eq {K : AK} {env : Env} {H : AHeap} : aw PP grammarfile_Valid_c49 K env H = aw PP grammarfile_Valid_c46 (seqK PP grammarfile_Valid_c48 K) env H := aw_seq grammarfile_Valid_c46 grammarfile_Valid_c48
def grammarfile_Valid_c50 : AC := .seq grammarfile_Valid_c26 grammarfile_Valid_c49
@[simp] theorem grammarfile_Valid_c50_eq {K : AK} {env : Env} {H : AHeap} : aw PP grammarfile_Valid_c50 K env H = aw PP grammarfile_Valid_c26 (seqK PP grammarfile_Valid_c49 K) env H := aw_seq grammarfile_Valid_c26 grammarfile_Valid_c49
def grammarfile_Valid_c51 : AC := .seq grammarfile_Valid_c6 grammarfile_Valid_c50
@[simp] theorem grammarfile_Valid_c51_eq {K : AK} {env : Env} {H : AHeap} : aw PP grammarfile_Valid_c51 K env H = aw PP grammarfile_Valid_c6 (seqK PP grammarfile_Valid_c50 K) env H := aw_seq grammarfile_Valid_c6 grammarfile_Valid_c50
def grammarfile_Valid_c52 : AC := .seq grammarfile_Valid_c5 grammarfile_Valid_c51
@[simp] theorem grammarfile_Valid_c52_eq {K : AK} {env : Env} {H : AHeap} : aw PP grammarfile_Valid_c52 K env H = aw PP grammarfile_Valid_c5 (seqK PP grammarfile_Valid_c51 K) env H := aw_seq grammarfile_Valid_c5 grammarfile_Valid_c51
def grammarfile_Valid_c53 : AC := .seq grammarfile_Valid_c0 grammarfile_Valid_c52
@[simp] theorem grammarfile_Valid_c53_eq {K : AK} {env : Env} {H : AHeap} : aw PP grammarfile_Valid_c53 K env H = aw PP grammarfile_Valid_c0 (seqK PP grammarfile_Valid_c52 K) env H := aw_seq grammarfile_Valid_c0 grammarfile_Valid_c52
def grammarfile_Valid_ac : AC := grammarfile_Valid_c53
@[simp] theorem grammarfile_Valid_ac_eq {K : AK} {env : Env} {H : AHeap} : aw PP grammarfile_Valid_ac K env H = aw PP grammarfile_Valid_c53 K env H := Eq.trans rfl rfl
def grammarfile_Valid_rs : List ARV := [.tmp 2]
abbrev grammarfile_Valid_id : Nat := 24
theorem grammarfile_Valid_comp : compF PP grammarfile_Valid_kl grammarfile_Valid_ow 1 Try.f24 = some (grammarfile_Valid_ac, grammarfile_Valid_rs) := by kernel_rfl
theorem grammarfile_Valid_enter {args : List AV} {H : AHeap} {post : ARes → AHeap → Prop} (ha : args.length = 1) (h : aw PP grammarfile_Valid_ac (retK grammarfile_Valid_rs post) (argEnv 0 args) H) : ACalls PP grammarfile_Valid_id args H post := .enterF Try.func24 PP_mix grammarfile_Valid_comp ha h

end Go.Av
