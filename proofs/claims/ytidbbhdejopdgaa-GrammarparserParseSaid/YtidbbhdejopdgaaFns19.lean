/- Functions of the given program, compiled to the own form by program. -/
import Derived.Test.YtidbbhdejopdgaaProg
import Derived.KernelRfl
import Derived.Test.YtidbbhdejopdgaaAvF
import Derived.Test.YtidbbhdejopdgaaFns1
set_option linter.unusedVariables false
set_option linter.unusedSimpArgs false
namespace Go.Av
open Go Go.Proofs
/-! emendate.grammarparser.lex -/
def grammarparser_lex_kl : Nat → List Nat
  | 0 => [2]
  | 3 => [8, 9, 10]
  | 4 => [11, 12, 13]
  | 5 => [14, 15]
  | 6 => [16, 17, 18]
  | 7 => [20, 21, 22, 23, 24, 25, 26, 27, 28, 29, 30, 31, 32, 33]
  | 8 => [5, 6, 7, 19, 34, 35]
  | 9 => [19, 37, 38]
  | 10 => [5, 6, 7, 36, 39, 40, 41]
  | 11 => [36, 43, 44]
  | 12 => [7, 42, 45, 46, 47]
  | 13 => [48]
  | 14 => [7, 42, 50, 51]
  | 15 => [49, 52, 53, 54]
  | 16 => [55, 56, 57, 58, 59, 60]
  | 17 => [4, 49, 61, 62, 63, 64, 65]
  | 18 => [5, 66, 67, 68, 69]
  | 19 => [6, 70]
  | 20 => [0, 3, 4, 11, 71]
  | _ => []
def grammarparser_lex_ow : Nat → Nat → Bool := fun _ _ => false
def grammarparser_lex_c0 : AC := .reg [⟨some 2, none, .mov (.c (.nils))⟩] [2]
@[simp] theorem grammarparser_lex_c0_eq {K : AK} {env : Env} {H : AHeap} : aw PP grammarparser_lex_c0 K env H = awOps PP [⟨some 2, none, .mov (.c (.nils))⟩] (regK K [2]) (panK K) env H := aw_reg _ _
def grammarparser_lex_c1 : AC := .reg [⟨some 3, none, .mov (.c (.nils))⟩] []
@[simp] theorem grammarparser_lex_c1_eq {K : AK} {env : Env} {H : AHeap} : aw PP grammarparser_lex_c1 K env H = awOps PP [⟨some 3, none, .mov (.c (.nils))⟩] (regK K []) (panK K) env H := aw_reg _ _
def grammarparser_lex_c2 : AC := .reg [⟨some 4, none, .mov (.c (.int (.i64) 0))⟩] []
@[simp] theorem grammarparser_lex_c2_eq {K : AK} {env : Env} {H : AHeap} : aw PP grammarparser_lex_c2 K env H = awOps PP [⟨some 4, none, .mov (.c (.int (.i64) 0))⟩] (regK K []) (panK K) env H := aw_reg _ _
def grammarparser_lex_c3 : AC := .reg [⟨some 8, none, .mov (.t 4)⟩, ⟨some 9, none, .mov (.t 0)⟩, ⟨some 10, none, .lens (.t 9)⟩, ⟨some 11, none, .bin (.lss) (.t 8) (.t 10)⟩] [8, 9, 10]
@[simp] theorem grammarparser_lex_c3_eq {K : AK} {env : Env} {H : AHeap} : aw PP grammarparser_lex_c3 K env H = awOps PP [⟨some 8, none, .mov (.t 4)⟩, ⟨some 9, none, .mov (.t 0)⟩, ⟨some 10, none, .lens (.t 9)⟩, ⟨some 11, none, .bin (.lss) (.t 8) (.t 10)⟩] (regK K [8, 9, 10]) (panK K) env H := aw_reg _ _
def grammarparser_lex_c4 : AC := .cond (.t 11) .skip (.exit 0)
@[simp] theorem grammarparser_lex_c4_eq {K : AK} {env : Env} {H : AHeap} : aw PP grammarparser_lex_c4 K env H = condQ PP (Opd.ev env (.t 11)) .skip (.exit 0) K env H := aw_cond _ .skip (.exit 0)
def grammarparser_lex_c5 : AC := .seq grammarparser_lex_c3 grammarparser_lex_c4
@[simp] theorem grammarparser_lex_c5_eq {K : AK} {env : Env} {H : AHeap} : aw PP grammarparser_lex_c5 K env H = aw PP grammarparser_lex_c3 (seqK PP grammarparser_lex_c4 K) env H := aw_seq grammarparser_lex_c3 grammarparser_lex_c4
def grammarparser_lex_c6 : AC := .reg [⟨some 12, none, .mov (.t 4)⟩, ⟨some 13, none, .build [.int (.i64) 0, .str [], .bool false, .int (.i64) 0] [(0, .t 12), (3, .c (.int (.i64) (-1)))]⟩, ⟨some 5, none, .alloc (.struct [.int (.i64) 0, .str [], .bool false, .int (.i64) 0]) 79⟩, ⟨none, none, .st 4 (.t 5) (.t 13)⟩] [11, 12, 13]
@[simp] theorem grammarparser_lex_c6_eq {K : AK} {env : Env} {H : AHeap} : aw PP grammarparser_lex_c6 K env H = awOps PP [⟨some 12, none, .mov (.t 4)⟩, ⟨some 13, none, .build [.int (.i64) 0, .str [], .bool false, .int (.i64) 0] [(0, .t 12), (3, .c (.int (.i64) (-1)))]⟩, ⟨some 5, none, .alloc (.struct [.int (.i64) 0, .str [], .bool false, .int (.i64) 0]) 79⟩, ⟨none, none, .st 4 (.t 5) (.t 13)⟩] (regK K [11, 12, 13]) (panK K) env H := aw_reg _ _
def grammarparser_lex_c7 : AC := .reg [⟨some 14, none, .mov (.t 4)⟩, ⟨some 15, none, .bin (.add) (.t 14) (.c (.int (.i64) 1))⟩, ⟨some 6, none, .mov (.t 15)⟩] [14, 15]
@[simp] theorem grammarparser_lex_c7_eq {K : AK} {env : Env} {H : AHeap} : aw PP grammarparser_lex_c7 K env H = awOps PP [⟨some 14, none, .mov (.t 4)⟩, ⟨some 15, none, .bin (.add) (.t 14) (.c (.int (.i64) 1))⟩, ⟨some 6, none, .mov (.t 15)⟩] (regK K [14, 15]) (panK K) env H := aw_reg _ _
def grammarparser_lex_c8 : AC := .reg [⟨some 16, none, .mov (.t 0)⟩, ⟨some 17, none, .mov (.t 4)⟩, ⟨some 18, none, .ix (.t 16) (.t 17)⟩, ⟨some 7, none, .mov (.t 18)⟩] [16, 17, 18]
@[simp] theorem grammarparser_lex_c8_eq {K : AK} {env : Env} {H : AHeap} : aw PP grammarparser_lex_c8 K env H = awOps PP [⟨some 16, none, .mov (.t 0)⟩, ⟨some 17, none, .mov (.t 4)⟩, ⟨some 18, none, .ix (.t 16) (.t 17)⟩, ⟨some 7, none, .mov (.t 18)⟩] (regK K [16, 17, 18]) (panK K) env H := aw_reg _ _
def grammarparser_lex_c9 : AC := .reg [⟨some 20, none, .mov (.t 7)⟩, ⟨some 21, none, .bin (.eql) (.t 20) (.c (.int (.u8) 32))⟩, ⟨some 22, none, .mov (.t 21)⟩, ⟨some 23, some (22, false), .mov (.t 7)⟩, ⟨some 24, some (22, false), .bin (.eql) (.t 23) (.c (.int (.u8) 9))⟩, ⟨some 25, none, .pick (.t 22) (.c (.bool true)) (.t 24)⟩, ⟨some 26, none, .mov (.t 25)⟩, ⟨some 27, some (26, false), .mov (.t 7)⟩, ⟨some 28, some (26, false), .bin (.eql) (.t 27) (.c (.int (.u8) 13))⟩, ⟨some 29, none, .pick (.t 26) (.c (.bool true)) (.t 28)⟩, ⟨some 30, none, .mov (.t 29)⟩, ⟨some 31, some (30, false), .mov (.t 7)⟩, ⟨some 32, some (30, false), .bin (.eql) (.t 31) (.c (.int (.u8) 10))⟩, ⟨some 33, none, .pick (.t 30) (.c (.bool true)) (.t 32)⟩, ⟨some 19, none, .mov (.t 33)⟩] [20, 21, 22, 23, 24, 25, 26, 27, 28, 29, 30, 31, 32, 33]
@[simp] theorem grammarparser_lex_c9_eq {K : AK} {env : Env} {H : AHeap} : aw PP grammarparser_lex_c9 K env H = awOps PP [⟨some 20, none, .mov (.t 7)⟩, ⟨some 21, none, .bin (.eql) (.t 20) (.c (.int (.u8) 32))⟩, ⟨some 22, none, .mov (.t 21)⟩, ⟨some 23, some (22, false), .mov (.t 7)⟩, ⟨some 24, some (22, false), .bin (.eql) (.t 23) (.c (.int (.u8) 9))⟩, ⟨some 25, none, .pick (.t 22) (.c (.bool true)) (.t 24)⟩, ⟨some 26, none, .mov (.t 25)⟩, ⟨some 27, some (26, false), .mov (.t 7)⟩, ⟨some 28, some (26, false), .bin (.eql) (.t 27) (.c (.int (.u8) 13))⟩, ⟨some 29, none, .pick (.t 26) (.c (.bool true)) (.t 28)⟩, ⟨some 30, none, .mov (.t 29)⟩, ⟨some 31, some (30, false), .mov (.t 7)⟩, ⟨some 32, some (30, false), .bin (.eql) (.t 31) (.c (.int (.u8) 10))⟩, ⟨some 33, none, .pick (.t 30) (.c (.bool true)) (.t 32)⟩, ⟨some 19, none, .mov (.t 33)⟩] (regK K [20, 21, 22, 23, 24, 25, 26, 27, 28, 29, 30, 31, 32, 33]) (panK K) env H := aw_reg _ _
def grammarparser_lex_c10 : AC := .reg [⟨some 34, none, .mov (.t 4)⟩, ⟨some 35, none, .bin (.add) (.t 34) (.c (.int (.i64) 1))⟩, ⟨some 4, none, .mov (.t 35)⟩] [5, 6, 7, 19, 34, 35]
@[simp] theorem grammarparser_lex_c10_eq {K : AK} {env : Env} {H : AHeap} : aw PP grammarparser_lex_c10 K env H = awOps PP [⟨some 34, none, .mov (.t 4)⟩, ⟨some 35, none, .bin (.add) (.t 34) (.c (.int (.i64) 1))⟩, ⟨some 4, none, .mov (.t 35)⟩] (regK K [5, 6, 7, 19, 34, 35]) (panK K) env H := aw_reg _ _
def grammarparser_lex_c11 : AC := .seq grammarparser_lex_c10 (.exit 1)
@[simp] theorem grammarparser_lex_c11_eq {K : AK} {env : Env} {H : AHeap} : aw PP grammarparser_lex_c11 K env H = aw PP grammarparser_lex_c10 (seqK PP (.exit 1) K) env H := aw_seq grammarparser_lex_c10 (.exit 1)
def grammarparser_lex_c12 : AC := .reg [⟨some 37, none, .mov (.t 7)⟩, ⟨some 38, none, .bin (.eql) (.t 37) (.c (.int (.u8) 35))⟩, ⟨some 36, none, .mov (.t 38)⟩] [19, 37, 38]
@[simp] theorem grammarparser_lex_c12_eq {K : AK} {env : Env} {H : AHeap} : aw PP grammarparser_lex_c12 K env H = awOps PP [⟨some 37, none, .mov (.t 7)⟩, ⟨some 38, none, .bin (.eql) (.t 37) (.c (.int (.u8) 35))⟩, ⟨some 36, none, .mov (.t 38)⟩] (regK K [19, 37, 38]) (panK K) env H := aw_reg _ _
def grammarparser_lex_c13 : AC := .reg [⟨some 39, none, .mov (.t 0)⟩, ⟨some 40, none, .mov (.t 4)⟩, ⟨some 41, none, .call (.c (.fn (.func 47) [] [])) [.t 39, .t 40, .c (.fn (.func 48) [] [])]⟩, ⟨some 4, none, .mov (.t 41)⟩] [5, 6, 7, 36, 39, 40, 41]
@[simp] theorem grammarparser_lex_c13_eq {K : AK} {env : Env} {H : AHeap} : aw PP grammarparser_lex_c13 K env H = awOps PP [⟨some 39, none, .mov (.t 0)⟩, ⟨some 40, none, .mov (.t 4)⟩, ⟨some 41, none, .call (.c (.fn (.func 47) [] [])) [.t 39, .t 40, .c (.fn (.func 48) [] [])]⟩, ⟨some 4, none, .mov (.t 41)⟩] (regK K [5, 6, 7, 36, 39, 40, 41]) (panK K) env H := aw_reg _ _
def grammarparser_lex_c14 : AC := .seq grammarparser_lex_c13 (.exit 1)
@[simp] theorem grammarparser_lex_c14_eq {K : AK} {env : Env} {H : AHeap} : aw PP grammarparser_lex_c14 K env H = aw PP grammarparser_lex_c13 (seqK PP (.exit 1) K) env H := aw_seq grammarparser_lex_c13 (.exit 1)
def grammarparser_lex_c15 : AC := .reg [⟨some 43, none, .mov (.t 7)⟩, ⟨some 44, none, .call (.c (.fn (.func 49) [] [])) [.t 43]⟩, ⟨some 42, none, .mov (.t 44)⟩] [36, 43, 44]
@[simp] theorem grammarparser_lex_c15_eq {K : AK} {env : Env} {H : AHeap} : aw PP grammarparser_lex_c15 K env H = awOps PP [⟨some 43, none, .mov (.t 7)⟩, ⟨some 44, none, .call (.c (.fn (.func 49) [] [])) [.t 43]⟩, ⟨some 42, none, .mov (.t 44)⟩] (regK K [36, 43, 44]) (panK K) env H := aw_reg _ _
def grammarparser_lex_c16 : AC := .reg [⟨some 45, none, .mov (.t 0)⟩, ⟨some 46, none, .mov (.t 4)⟩, ⟨some 47, none, .call (.c (.fn (.func 47) [] [])) [.t 45, .t 46, .c (.fn (.func 50) [] [])]⟩, ⟨some 6, none, .mov (.t 47)⟩] [7, 42, 45, 46, 47]
@[simp] theorem grammarparser_lex_c16_eq {K : AK} {env : Env} {H : AHeap} : aw PP grammarparser_lex_c16 K env H = awOps PP [⟨some 45, none, .mov (.t 0)⟩, ⟨some 46, none, .mov (.t 4)⟩, ⟨some 47, none, .call (.c (.fn (.func 47) [] [])) [.t 45, .t 46, .c (.fn (.func 50) [] [])]⟩, ⟨some 6, none, .mov (.t 47)⟩] (regK K [7, 42, 45, 46, 47]) (panK K) env H := aw_reg _ _
def grammarparser_lex_c17 : AC := .reg [⟨some 48, none, .fa 2 2 (.t 5)⟩, ⟨none, none, .st 1 (.t 48) (.c (.bool true))⟩] [48]
@[simp] theorem grammarparser_lex_c17_eq {K : AK} {env : Env} {H : AHeap} : aw PP grammarparser_lex_c17 K env H = awOps PP [⟨some 48, none, .fa 2 2 (.t 5)⟩, ⟨none, none, .st 1 (.t 48) (.c (.bool true))⟩] (regK K [48]) (panK K) env H := aw_reg _ _
def grammarparser_lex_c18 : AC := .seq grammarparser_lex_c16 grammarparser_lex_c17
@[simp] theorem grammarparser_lex_c18_eq {K : AK} {env : Env} {H : AHeap} : aw PP grammarparser_lex_c18 K env H = aw PP grammarparser_lex_c16 (seqK PP grammarparser_lex_c17 K) env H := aw_seq grammarparser_lex_c16 grammarparser_lex_c17
def grammarparser_lex_c19 : AC := .reg [⟨some 50, none, .mov (.t 7)⟩, ⟨some 51, none, .call (.c (.fn (.func 51) [] [])) [.t 50]⟩, ⟨some 49, none, .mov (.t 51)⟩] [7, 42, 50, 51]
@[simp] theorem grammarparser_lex_c19_eq {K : AK} {env : Env} {H : AHeap} : aw PP grammarparser_lex_c19 K env H = awOps PP [⟨some 50, none, .mov (.t 7)⟩, ⟨some 51, none, .call (.c (.fn (.func 51) [] [])) [.t 50]⟩, ⟨some 49, none, .mov (.t 51)⟩] (regK K [7, 42, 50, 51]) (panK K) env H := aw_reg _ _
def grammarparser_lex_c20 : AC := .reg [⟨some 52, none, .mov (.t 0)⟩, ⟨some 53, none, .mov (.t 4)⟩, ⟨some 54, none, .call (.c (.fn (.func 47) [] [])) [.t 52, .t 53, .c (.fn (.func 51) [] [])]⟩, ⟨some 6, none, .mov (.t 54)⟩] [49, 52, 53, 54]
@[simp] theorem grammarparser_lex_c20_eq {K : AK} {env : Env} {H : AHeap} : aw PP grammarparser_lex_c20 K env H = awOps PP [⟨some 52, none, .mov (.t 0)⟩, ⟨some 53, none, .mov (.t 4)⟩, ⟨some 54, none, .call (.c (.fn (.func 47) [] [])) [.t 52, .t 53, .c (.fn (.func 51) [] [])]⟩, ⟨some 6, none, .mov (.t 54)⟩] (regK K [49, 52, 53, 54]) (panK K) env H := aw_reg _ _
def grammarparser_lex_c21 : AC := .reg [⟨some 55, none, .mov (.t 0)⟩, ⟨some 56, none, .mov (.t 4)⟩, ⟨some 57, none, .mov (.t 6)⟩, ⟨some 58, none, .sls (.t 55) (some (.t 56)) (some (.t 57))⟩, ⟨some 59, none, .call (.c (.fn (.func 52) [] [])) [.t 58]⟩, ⟨some 60, none, .fa 3 3 (.t 5)⟩, ⟨none, none, .st 1 (.t 60) (.t 59)⟩] [55, 56, 57, 58, 59, 60]
@[simp] theorem grammarparser_lex_c21_eq {K : AK} {env : Env} {H : AHeap} : aw PP grammarparser_lex_c21 K env H = awOps PP [⟨some 55, none, .mov (.t 0)⟩, ⟨some 56, none, .mov (.t 4)⟩, ⟨some 57, none, .mov (.t 6)⟩, ⟨some 58, none, .sls (.t 55) (some (.t 56)) (some (.t 57))⟩, ⟨some 59, none, .call (.c (.fn (.func 52) [] [])) [.t 58]⟩, ⟨some 60, none, .fa 3 3 (.t 5)⟩, ⟨none, none, .st 1 (.t 60) (.t 59)⟩] (regK K [55, 56, 57, 58, 59, 60]) (panK K) env H := aw_reg _ _
def grammarparser_lex_c22 : AC := .seq grammarparser_lex_c20 grammarparser_lex_c21
@[simp] theorem grammarparser_lex_c22_eq {K : AK} {env : Env} {H : AHeap} : aw PP grammarparser_lex_c22 K env H = aw PP grammarparser_lex_c20 (seqK PP grammarparser_lex_c21 K) env H := aw_seq grammarparser_lex_c20 grammarparser_lex_c21
def grammarparser_lex_c23 : AC := .cond (.t 49) grammarparser_lex_c22 .skip
@[simp] theorem grammarparser_lex_c23_eq {K : AK} {env : Env} {H : AHeap} : aw PP grammarparser_lex_c23 K env H = condQ PP (Opd.ev env (.t 49)) grammarparser_lex_c22 .skip K env H := aw_cond _ grammarparser_lex_c22 .skip
def grammarparser_lex_c24 : AC := .seq grammarparser_lex_c19 grammarparser_lex_c23
@[simp] theorem grammarparser_lex_c24_eq {K : AK} {env : Env} {H : AHeap} : aw PP grammarparser_lex_c24 K env H = aw PP grammarparser_lex_c19 (seqK PP grammarparser_lex_c23 K) env H := aw_seq grammarparser_lex_c19 grammarparser_lex_c23
def grammarparser_lex_c25 : AC := .cond (.t 42) grammarparser_lex_c18 grammarparser_lex_c24
@[simp] theorem grammarparser_lex_c25_eq {K : AK} {env : Env} {H : AHeap} : aw PP grammarparser_lex_c25 K env H = condQ PP (Opd.ev env (.t 42)) grammarparser_lex_c18 grammarparser_lex_c24 K env H := aw_cond _ grammarparser_lex_c18 grammarparser_lex_c24
def grammarparser_lex_c26 : AC := .seq grammarparser_lex_c15 grammarparser_lex_c25
@[simp] theorem grammarparser_lex_c26_eq {K : AK} {env : Env} {H : AHeap} : aw PP grammarparser_lex_c26 K env H = aw PP grammarparser_lex_c15 (seqK PP grammarparser_lex_c25 K) env H := aw_seq grammarparser_lex_c15 grammarparser_lex_c25
def grammarparser_lex_c27 : AC := .cond (.t 36) grammarparser_lex_c14 grammarparser_lex_c26
@[simp] theorem grammarparser_lex_c27_eq {K : AK} {env : Env} {H : AHeap} : aw PP grammarparser_lex_c27 K env H = condQ PP (Opd.ev env (.t 36)) grammarparser_lex_c14 grammarparser_lex_c26 K env H := aw_cond _ grammarparser_lex_c14 grammarparser_lex_c26
def grammarparser_lex_c28 : AC := .seq grammarparser_lex_c12 grammarparser_lex_c27
@[simp] theorem grammarparser_lex_c28_eq {K : AK} {env : Env} {H : AHeap} : aw PP grammarparser_lex_c28 K env H = aw PP grammarparser_lex_c12 (seqK PP grammarparser_lex_c27 K) env H := aw_seq grammarparser_lex_c12 grammarparser_lex_c27
def grammarparser_lex_c29 : AC := .cond (.t 19) grammarparser_lex_c11 grammarparser_lex_c28
@[simp] theorem grammarparser_lex_c29_eq {K : AK} {env : Env} {H : AHeap} : aw PP grammarparser_lex_c29 K env H = condQ PP (Opd.ev env (.t 19)) grammarparser_lex_c11 grammarparser_lex_c28 K env H := aw_cond _ grammarparser_lex_c11 grammarparser_lex_c28
def grammarparser_lex_c30 : AC := .seq grammarparser_lex_c9 grammarparser_lex_c29
@[simp] theorem grammarparser_lex_c30_eq {K : AK} {env : Env} {H : AHeap} : aw PP grammarparser_lex_c30 K env H = aw PP grammarparser_lex_c9 (seqK PP grammarparser_lex_c29 K) env H := aw_seq grammarparser_lex_c9 grammarparser_lex_c29
def grammarparser_lex_c31 : AC := .block 2 grammarparser_lex_c30
@[simp] theorem grammarparser_lex_c31_eq {K : AK} {env : Env} {H : AHeap} : aw PP grammarparser_lex_c31 K env H = aw PP grammarparser_lex_c30 (blockK 2 K) env H := aw_block _ grammarparser_lex_c30
def grammarparser_lex_c32 : AC := .seq grammarparser_lex_c8 grammarparser_lex_c31
@[simp] theorem grammarparser_lex_c32_eq {K : AK} {env : Env} {H : AHeap} : aw PP grammarparser_lex_c32 K env H = aw PP grammarparser_lex_c8 (seqK PP grammarparser_lex_c31 K) env H := aw_seq grammarparser_lex_c8 grammarparser_lex_c31
def grammarparser_lex_c33 : AC := .reg [⟨some 61, none, .mov (.t 0)⟩, ⟨some 62, none, .mov (.t 4)⟩, ⟨some 63, none, .mov (.t 6)⟩, ⟨some 64, none, .sls (.t 61) (some (.t 62)) (some (.t 63))⟩, ⟨some 65, none, .fa 1 1 (.t 5)⟩, ⟨none, none, .st 1 (.t 65) (.t 64)⟩] [4, 49, 61, 62, 63, 64, 65]
@[simp] theorem grammarparser_lex_c33_eq {K : AK} {env : Env} {H : AHeap} : aw PP grammarparser_lex_c33 K env H = awOps PP [⟨some 61, none, .mov (.t 0)⟩, ⟨some 62, none, .mov (.t 4)⟩, ⟨some 63, none, .mov (.t 6)⟩, ⟨some 64, none, .sls (.t 61) (some (.t 62)) (some (.t 63))⟩, ⟨some 65, none, .fa 1 1 (.t 5)⟩, ⟨none, none, .st 1 (.t 65) (.t 64)⟩] (regK K [4, 49, 61, 62, 63, 64, 65]) (panK K) env H := aw_reg _ _
def grammarparser_lex_c34 : AC := .reg [⟨some 66, none, .mov (.t 3)⟩, ⟨some 67, none, .ld true 4 (.t 5)⟩, ⟨some 68, none, .bsl false 79 4 1 (.struct [.int (.i64) 0, .str [], .bool false, .int (.i64) 0]) [(0, .t 67)]⟩, ⟨some 69, none, .app 79 4 40 (.t 66) (.t 68)⟩, ⟨some 3, none, .mov (.t 69)⟩] [5, 66, 67, 68, 69]
@[simp] theorem grammarparser_lex_c34_eq {K : AK} {env : Env} {H : AHeap} : aw PP grammarparser_lex_c34 K env H = awOps PP [⟨some 66, none, .mov (.t 3)⟩, ⟨some 67, none, .ld true 4 (.t 5)⟩, ⟨some 68, none, .bsl false 79 4 1 (.struct [.int (.i64) 0, .str [], .bool false, .int (.i64) 0]) [(0, .t 67)]⟩, ⟨some 69, none, .app 79 4 40 (.t 66) (.t 68)⟩, ⟨some 3, none, .mov (.t 69)⟩] (regK K [5, 66, 67, 68, 69]) (panK K) env H := aw_reg _ _
def grammarparser_lex_c35 : AC := .reg [⟨some 70, none, .mov (.t 6)⟩, ⟨some 4, none, .mov (.t 70)⟩] [6, 70]
@[simp] theorem grammarparser_lex_c35_eq {K : AK} {env : Env} {H : AHeap} : aw PP grammarparser_lex_c35 K env H = awOps PP [⟨some 70, none, .mov (.t 6)⟩, ⟨some 4, none, .mov (.t 70)⟩] (regK K [6, 70]) (panK K) env H := aw_reg _ _
def grammarparser_lex_c36 : AC := .seq grammarparser_lex_c34 grammarparser_lex_c35
@[simp] theorem grammarparser_lex_c36_eq {K : AK} {env : Env} {H : AHeap} : aw PP grammarparser_lex_c36 K env H = aw PP grammarparser_lex_c34 (seqK PP grammarparser_lex_c35 K) env H := aw_seq grammarparser_lex_c34 grammarparser_lex_c35
def grammarparser_lex_c37 : AC := .seq grammarparser_lex_c33 grammarparser_lex_c36
@[simp] theorem grammarparser_lex_c37_eq {K : AK} {env : Env} {H : AHeap} : aw PP grammarparser_lex_c37 K env H = aw PP grammarparser_lex_c33 (seqK PP grammarparser_lex_c36 K) env H := aw_seq grammarparser_lex_c33 grammarparser_lex_c36
def grammarparser_lex_c38 : AC := .seq grammarparser_lex_c32 grammarparser_lex_c37
@[simp] theorem grammarparser_lex_c38_eq {K : AK} {env : Env} {H : AHeap} : aw PP grammarparser_lex_c38 K env H = aw PP grammarparser_lex_c32 (seqK PP grammarparser_lex_c37 K) env H := aw_seq grammarparser_lex_c32 grammarparser_lex_c37
def grammarparser_lex_c39 : AC := .seq grammarparser_lex_c7 grammarparser_lex_c38
@[simp] theorem grammarparser_lex_c39_eq {K : AK} {env : Env} {H : AHeap} : aw PP grammarparser_lex_c39 K env H = aw PP grammarparser_lex_c7 (seqK PP grammarparser_lex_c38 K) env H := aw_seq grammarparser_lex_c7 grammarparser_lex_c38
def grammarparser_lex_c40 : AC := .seq grammarparser_lex_c6 grammarparser_lex_c39
@[simp] theorem grammarparser_lex_c40_eq {K : AK} {env : Env} {H : AHeap} : aw PP grammarparser_lex_c40 K env H = aw PP grammarparser_lex_c6 (seqK PP grammarparser_lex_c39 K) env H := aw_seq grammarparser_lex_c6 grammarparser_lex_c39
def grammarparser_lex_c41 : AC := .block 1 grammarparser_lex_c40
@[simp] theorem grammarparser_lex_c41_eq {K : AK} {env : Env} {H : AHeap} : aw PP grammarparser_lex_c41 K env H = aw PP grammarparser_lex_c40 (blockK 1 K) env H := aw_block _ grammarparser_lex_c40
def grammarparser_lex_c42 : AC := .seq grammarparser_lex_c5 grammarparser_lex_c41
@[simp] theorem grammarparser_lex_c42_eq {K : AK} {env : Env} {H : AHeap} : aw PP grammarparser_lex_c42 K env H = aw PP grammarparser_lex_c5 (seqK PP grammarparser_lex_c41 K) env H := aw_seq grammarparser_lex_c5 grammarparser_lex_c41
def grammarparser_lex_c43 : AC := .loop grammarparser_lex_c42
def grammarparser_lex_c44 : AC := .block 0 grammarparser_lex_c43
@[simp] theorem grammarparser_lex_c44_eq {K : AK} {env : Env} {H : AHeap} : aw PP grammarparser_lex_c44 K env H = aw PP grammarparser_lex_c43 (blockK 0 K) env H := aw_block _ grammarparser_lex_c43
def grammarparser_lex_c45 : AC := .seq grammarparser_lex_c2 grammarparser_lex_c44
@[simp] theorem grammarparser_lex_c45_eq {K : AK} {env : Env} {H : AHeap} : aw PP grammarparser_lex_c45 K env H = aw PP grammarparser_lex_c2 (seqK PP grammarparser_lex_c44 K) env H := aw_seq grammarparser_lex_c2 grammarparser_lex_c44
def grammarparser_lex_c46 : AC := .reg [⟨some 71, none, .mov (.t 3)⟩, ⟨some 2, none, .mov (.t 71)⟩] [0, 3, 4, 11, 71]
@[simp] theorem grammarparser_lex_c46_eq {K : AK} {env : Env} {H : AHeap} : aw PP grammarparser_lex_c46 K env H = awOps PP [⟨some 71, none, .mov (.t 3)⟩, ⟨some 2, none, .mov (.t 71)⟩] (regK K [0, 3, 4, 11, 71]) (panK K) env H := aw_reg _ _
def grammarparser_lex_c47 : AC := .seq grammarparser_lex_c46 .ret
@[simp] theorem grammarparser_lex_c47_eq {K : AK} {env : Env} {H : AHeap} : aw PP grammarparser_lex_c47 K env H = aw PP grammarparser_lex_c46 (seqK PP .ret K) env H := aw_seq grammarparser_lex_c46 .ret
def grammarparser_lex_c48 : AC := .seq grammarparser_lex_c45 grammarparser_lex_c47
@[simp] theorem grammarparser_lex_c48_eq {K : AK} {env : Env} {H : AHeap} : aw PP grammarparser_lex_c48 K env H = aw PP grammarparser_lex_c45 (seqK PP grammarparser_lex_c47 K) env H := aw_seq grammarparser_lex_c45 grammarparser_lex_c47
def grammarparser_lex_c49 : AC := .seq grammarparser_lex_c1 grammarparser_lex_c48
@[simp] theorem grammarparser_lex_c49_eq {K : AK} {env : Env} {H : AHeap} : aw PP grammarparser_lex_c49 K env H = aw PP grammarparser_lex_c1 (seqK PP grammarparser_lex_c48 K) env H := aw_seq grammarparser_lex_c1 grammarparser_lex_c48
def grammarparser_lex_c50 : AC := .seq grammarparser_lex_c0 grammarparser_lex_c49
@[simp] theorem grammarparser_lex_c50_eq {K : AK} {env : Env} {H : AHeap} : aw PP grammarparser_lex_c50 K env H = aw PP grammarparser_lex_c0 (seqK PP grammarparser_lex_c49 K) env H := aw_seq grammarparser_lex_c0 grammarparser_lex_c49
def grammarparser_lex_ac : AC := grammarparser_lex_c50
@[simp] theorem grammarparser_lex_ac_eq {K : AK} {env : Env} {H : AHeap} : aw PP grammarparser_lex_ac K env H = aw PP grammarparser_lex_c50 K env H := Eq.trans rfl rfl
def grammarparser_lex_rs : List ARV := [.tmp 2]
abbrev grammarparser_lex_id : Nat := 19
theorem grammarparser_lex_comp : compF PP grammarparser_lex_kl grammarparser_lex_ow 1 Try.f19 = some (grammarparser_lex_ac, grammarparser_lex_rs) := by kernel_rfl
theorem grammarparser_lex_enter {args : List AV} {H : AHeap} {post : ARes → AHeap → Prop} (ha : args.length = 1) (h : aw PP grammarparser_lex_ac (retK grammarparser_lex_rs post) (argEnv 0 args) H) : ACalls PP grammarparser_lex_id args H post := .enterF Try.func19 PP_mix grammarparser_lex_comp ha h

/-! (*emendate.grammarparser.reader).expect -/
def grammarparser_reader_expect_kl : Nat → List Nat
  | 0 => [1, 4, 5, 6, 7]
  | 1 => [8, 9, 10]
  | 2 => [0, 8, 11, 12]
  | _ => []
def grammarparser_reader_expect_ow : Nat → Nat → Bool := fun _ _ => false
def grammarparser_reader_expect_c0 : AC := .reg [⟨some 4, none, .mov (.t 0)⟩, ⟨some 5, none, .call (.c (.fn (.func 53) [] [])) [.t 4]⟩, ⟨some 6, none, .fld 1 1 1 false (.t 5)⟩, ⟨some 7, none, .mov (.t 1)⟩, ⟨some 8, none, .bin (.neq) (.t 6) (.t 7)⟩] [1, 4, 5, 6, 7]
@[simp] theorem grammarparser_reader_expect_c0_eq {K : AK} {env : Env} {H : AHeap} : aw PP grammarparser_reader_expect_c0 K env H = awOps PP [⟨some 4, none, .mov (.t 0)⟩, ⟨some 5, none, .call (.c (.fn (.func 53) [] [])) [.t 4]⟩, ⟨some 6, none, .fld 1 1 1 false (.t 5)⟩, ⟨some 7, none, .mov (.t 1)⟩, ⟨some 8, none, .bin (.neq) (.t 6) (.t 7)⟩] (regK K [1, 4, 5, 6, 7]) (panK K) env H := aw_reg _ _
def grammarparser_reader_expect_c1 : AC := .reg [⟨some 9, none, .mov (.t 0)⟩, ⟨some 10, none, .call (.c (.fn (.func 54) [] [])) [.t 9]⟩] [8, 9, 10]
@[simp] theorem grammarparser_reader_expect_c1_eq {K : AK} {env : Env} {H : AHeap} : aw PP grammarparser_reader_expect_c1 K env H = awOps PP [⟨some 9, none, .mov (.t 0)⟩, ⟨some 10, none, .call (.c (.fn (.func 54) [] [])) [.t 9]⟩] (regK K [8, 9, 10]) (panK K) env H := aw_reg _ _
def grammarparser_reader_expect_c2 : AC := .cond (.t 8) grammarparser_reader_expect_c1 .skip
@[simp] theorem grammarparser_reader_expect_c2_eq {K : AK} {env : Env} {H : AHeap} : aw PP grammarparser_reader_expect_c2 K env H = condQ PP (Opd.ev env (.t 8)) grammarparser_reader_expect_c1 .skip K env H := aw_cond _ grammarparser_reader_expect_c1 .skip
def grammarparser_reader_expect_c3 : AC := .seq grammarparser_reader_expect_c0 grammarparser_reader_expect_c2
@[simp] theorem grammarparser_reader_expect_c3_eq {K : AK} {env : Env} {H : AHeap} : aw PP grammarparser_reader_expect_c3 K env H = aw PP grammarparser_reader_expect_c0 (seqK PP grammarparser_reader_expect_c2 K) env H := aw_seq grammarparser_reader_expect_c0 grammarparser_reader_expect_c2
def grammarparser_reader_expect_c4 : AC := .reg [⟨some 11, none, .mov (.t 0)⟩, ⟨some 12, none, .call (.c (.fn (.func 55) [] [])) [.t 11]⟩] [0, 8, 11, 12]
@[simp] theorem grammarparser_reader_expect_c4_eq {K : AK} {env : Env} {H : AHeap} : aw PP grammarparser_reader_expect_c4 K env H = awOps PP [⟨some 11, none, .mov (.t 0)⟩, ⟨some 12, none, .call (.c (.fn (.func 55) [] [])) [.t 11]⟩] (regK K [0, 8, 11, 12]) (panK K) env H := aw_reg _ _
def grammarparser_reader_expect_c5 : AC := .seq grammarparser_reader_expect_c3 grammarparser_reader_expect_c4
@[simp] theorem grammarparser_reader_expect_c5_eq {K : AK} {env : Env} {H : AHeap} : aw PP grammarparser_reader_expect_c5 K env H = aw PP grammarparser_reader_expect_c3 (seqK PP grammarparser_reader_expect_c4 K) env H := aw_seq grammarparser_reader_expect_c3 grammarparser_reader_expect_c4
def grammarparser_reader_expect_ac : AC := grammarparser_reader_expect_c5
@[simp] theorem grammarparser_reader_expect_ac_eq {K : AK} {env : Env} {H : AHeap} : aw PP grammarparser_reader_expect_ac K env H = aw PP grammarparser_reader_expect_c5 K env H := Eq.trans rfl rfl
def grammarparser_reader_expect_rs : List ARV := []
abbrev grammarparser_reader_expect_id : Nat := 20
theorem grammarparser_reader_expect_comp : compF PP grammarparser_reader_expect_kl grammarparser_reader_expect_ow 2 Try.f20 = some (grammarparser_reader_expect_ac, grammarparser_reader_expect_rs) := by kernel_rfl
theorem grammarparser_reader_expect_enter {args : List AV} {H : AHeap} {post : ARes → AHeap → Prop} (ha : args.length = 2) (h : aw PP grammarparser_reader_expect_ac (retK grammarparser_reader_expect_rs post) (argEnv 0 args) H) : ACalls PP grammarparser_reader_expect_id args H post := .enterF Try.func20 PP_mix grammarparser_reader_expect_comp ha h

/-! (*emendate.grammarparser.reader).name -/
def grammarparser_reader_name_kl : Nat → List Nat
  | 0 => [2]
  | 1 => [4, 5]
  | 2 => [3, 6, 7, 8, 9, 10, 11, 12]
  | 3 => [13, 14, 15]
  | 4 => [0, 13, 16, 17, 18]
  | _ => []
def grammarparser_reader_name_ow : Nat → Nat → Bool := fun _ _ => false
def grammarparser_reader_name_c0 : AC := .reg [⟨some 2, none, .mov (.c (.str []))⟩] [2]
@[simp] theorem grammarparser_reader_name_c0_eq {K : AK} {env : Env} {H : AHeap} : aw PP grammarparser_reader_name_c0 K env H = awOps PP [⟨some 2, none, .mov (.c (.str []))⟩] (regK K [2]) (panK K) env H := aw_reg _ _
def grammarparser_reader_name_c1 : AC := .reg [⟨some 4, none, .mov (.t 0)⟩, ⟨some 5, none, .call (.c (.fn (.func 53) [] [])) [.t 4]⟩, ⟨some 3, none, .alloc (.struct [.int (.i64) 0, .str [], .bool false, .int (.i64) 0]) 79⟩, ⟨none, none, .st 4 (.t 3) (.t 5)⟩] [4, 5]
@[simp] theorem grammarparser_reader_name_c1_eq {K : AK} {env : Env} {H : AHeap} : aw PP grammarparser_reader_name_c1 K env H = awOps PP [⟨some 4, none, .mov (.t 0)⟩, ⟨some 5, none, .call (.c (.fn (.func 53) [] [])) [.t 4]⟩, ⟨some 3, none, .alloc (.struct [.int (.i64) 0, .str [], .bool false, .int (.i64) 0]) 79⟩, ⟨none, none, .st 4 (.t 3) (.t 5)⟩] (regK K [4, 5]) (panK K) env H := aw_reg _ _
def grammarparser_reader_name_c2 : AC := .reg [⟨some 6, none, .fa 2 2 (.t 3)⟩, ⟨some 7, none, .ld false 1 (.t 6)⟩, ⟨some 8, none, .not (.t 7)⟩, ⟨some 9, none, .mov (.t 8)⟩, ⟨some 10, some (9, false), .fa 1 1 (.t 3)⟩, ⟨some 11, some (9, false), .ld false 1 (.t 10)⟩, ⟨some 12, some (9, false), .call (.c (.fn (.func 56) [] [])) [.t 11]⟩, ⟨some 13, none, .pick (.t 9) (.c (.bool true)) (.t 12)⟩] [3, 6, 7, 8, 9, 10, 11, 12]
@[simp] theorem grammarparser_reader_name_c2_eq {K : AK} {env : Env} {H : AHeap} : aw PP grammarparser_reader_name_c2 K env H = awOps PP [⟨some 6, none, .fa 2 2 (.t 3)⟩, ⟨some 7, none, .ld false 1 (.t 6)⟩, ⟨some 8, none, .not (.t 7)⟩, ⟨some 9, none, .mov (.t 8)⟩, ⟨some 10, some (9, false), .fa 1 1 (.t 3)⟩, ⟨some 11, some (9, false), .ld false 1 (.t 10)⟩, ⟨some 12, some (9, false), .call (.c (.fn (.func 56) [] [])) [.t 11]⟩, ⟨some 13, none, .pick (.t 9) (.c (.bool true)) (.t 12)⟩] (regK K [3, 6, 7, 8, 9, 10, 11, 12]) (panK K) env H := aw_reg _ _
def grammarparser_reader_name_c3 : AC := .reg [⟨some 14, none, .mov (.t 0)⟩, ⟨some 15, none, .call (.c (.fn (.func 54) [] [])) [.t 14]⟩] [13, 14, 15]
@[simp] theorem grammarparser_reader_name_c3_eq {K : AK} {env : Env} {H : AHeap} : aw PP grammarparser_reader_name_c3 K env H = awOps PP [⟨some 14, none, .mov (.t 0)⟩, ⟨some 15, none, .call (.c (.fn (.func 54) [] [])) [.t 14]⟩] (regK K [13, 14, 15]) (panK K) env H := aw_reg _ _
def grammarparser_reader_name_c4 : AC := .cond (.t 13) grammarparser_reader_name_c3 .skip
@[simp] theorem grammarparser_reader_name_c4_eq {K : AK} {env : Env} {H : AHeap} : aw PP grammarparser_reader_name_c4 K env H = condQ PP (Opd.ev env (.t 13)) grammarparser_reader_name_c3 .skip K env H := aw_cond _ grammarparser_reader_name_c3 .skip
def grammarparser_reader_name_c5 : AC := .seq grammarparser_reader_name_c2 grammarparser_reader_name_c4
@[simp] theorem grammarparser_reader_name_c5_eq {K : AK} {env : Env} {H : AHeap} : aw PP grammarparser_reader_name_c5 K env H = aw PP grammarparser_reader_name_c2 (seqK PP grammarparser_reader_name_c4 K) env H := aw_seq grammarparser_reader_name_c2 grammarparser_reader_name_c4
def grammarparser_reader_name_c6 : AC := .seq grammarparser_reader_name_c1 grammarparser_reader_name_c5
@[simp] theorem grammarparser_reader_name_c6_eq {K : AK} {env : Env} {H : AHeap} : aw PP grammarparser_reader_name_c6 K env H = aw PP grammarparser_reader_name_c1 (seqK PP grammarparser_reader_name_c5 K) env H := aw_seq grammarparser_reader_name_c1 grammarparser_reader_name_c5
def grammarparser_reader_name_c7 : AC := .reg [⟨some 16, none, .mov (.t 0)⟩, ⟨some 17, none, .call (.c (.fn (.func 55) [] [])) [.t 16]⟩, ⟨some 18, none, .fld 1 1 1 false (.t 17)⟩, ⟨some 2, none, .mov (.t 18)⟩] [0, 13, 16, 17, 18]
@[simp] theorem grammarparser_reader_name_c7_eq {K : AK} {env : Env} {H : AHeap} : aw PP grammarparser_reader_name_c7 K env H = awOps PP [⟨some 16, none, .mov (.t 0)⟩, ⟨some 17, none, .call (.c (.fn (.func 55) [] [])) [.t 16]⟩, ⟨some 18, none, .fld 1 1 1 false (.t 17)⟩, ⟨some 2, none, .mov (.t 18)⟩] (regK K [0, 13, 16, 17, 18]) (panK K) env H := aw_reg _ _
def grammarparser_reader_name_c8 : AC := .seq grammarparser_reader_name_c7 .ret
@[simp] theorem grammarparser_reader_name_c8_eq {K : AK} {env : Env} {H : AHeap} : aw PP grammarparser_reader_name_c8 K env H = aw PP grammarparser_reader_name_c7 (seqK PP .ret K) env H := aw_seq grammarparser_reader_name_c7 .ret
def grammarparser_reader_name_c9 : AC := .seq grammarparser_reader_name_c6 grammarparser_reader_name_c8
@[simp] theorem grammarparser_reader_name_c9_eq {K : AK} {env : Env} {H : AHeap} : aw PP grammarparser_reader_name_c9 K env H = aw PP grammarparser_reader_name_c6 (seqK PP grammarparser_reader_name_c8 K) env H := aw_seq grammarparser_reader_name_c6 grammarparser_reader_name_c8
def grammarparser_reader_name_c10 : AC := .seq grammarparser_reader_name_c0 grammarparser_reader_name_c9
@[simp] theorem grammarparser_reader_name_c10_eq {K : AK} {env : Env} {H : AHeap} : aw PP grammarparser_reader_name_c10 K env H = aw PP grammarparser_reader_name_c0 (seqK PP grammarparser_reader_name_c9 K) env H := aw_seq grammarparser_reader_name_c0 grammarparser_reader_name_c9
def grammarparser_reader_name_ac : AC := grammarparser_reader_name_c10
@[simp] theorem grammarparser_reader_name_ac_eq {K : AK} {env : Env} {H : AHeap} : aw PP grammarparser_reader_name_ac K env H = aw PP grammarparser_reader_name_c10 K env H := Eq.trans rfl rfl
def grammarparser_reader_name_rs : List ARV := [.tmp 2]
abbrev grammarparser_reader_name_id : Nat := 21
theorem grammarparser_reader_name_comp : compF PP grammarparser_reader_name_kl grammarparser_reader_name_ow 1 Try.f21 = some (grammarparser_reader_name_ac, grammarparser_reader_name_rs) := by kernel_rfl
theorem grammarparser_reader_name_enter {args : List AV} {H : AHeap} {post : ARes → AHeap → Prop} (ha : args.length = 1) (h : aw PP grammarparser_reader_name_ac (retK grammarparser_reader_name_rs post) (argEnv 0 args) H) : ACalls PP grammarparser_reader_name_id args H post := .enterF Try.func21 PP_mix grammarparser_reader_name_comp ha h

/-! (*emendate.grammarparser.reader).levels -/
def grammarparser_reader_levels_kl : Nat → List Nat
  | 0 => [2]
  | 2 => [4, 5]
  | 3 => [0, 3, 7, 22]
  | 4 => [9]
  | 5 => [6, 8, 10, 11, 12, 13, 14]
  | 6 => [8, 16]
  | 7 => [6, 15, 17, 18, 19, 20, 21]
  | 8 => [6, 15, 23]
  | 9 => [22, 24, 25, 26, 27, 28]
  | _ => []
def grammarparser_reader_levels_ow : Nat → Nat → Bool := fun _ _ => false
def grammarparser_reader_levels_c0 : AC := .reg [⟨some 2, none, .mov (.c (.nils))⟩] [2]
@[simp] theorem grammarparser_reader_levels_c0_eq {K : AK} {env : Env} {H : AHeap} : aw PP grammarparser_reader_levels_c0 K env H = awOps PP [⟨some 2, none, .mov (.c (.nils))⟩] (regK K [2]) (panK K) env H := aw_reg _ _
def grammarparser_reader_levels_c1 : AC := .reg [⟨some 3, none, .mov (.c (.nils))⟩] []
@[simp] theorem grammarparser_reader_levels_c1_eq {K : AK} {env : Env} {H : AHeap} : aw PP grammarparser_reader_levels_c1 K env H = awOps PP [⟨some 3, none, .mov (.c (.nils))⟩] (regK K []) (panK K) env H := aw_reg _ _
def grammarparser_reader_levels_c2 : AC := .reg [⟨some 4, none, .mov (.t 0)⟩, ⟨some 5, none, .call (.c (.fn (.func 53) [] [])) [.t 4]⟩, ⟨some 6, none, .fld 1 1 1 false (.t 5)⟩] [4, 5]
@[simp] theorem grammarparser_reader_levels_c2_eq {K : AK} {env : Env} {H : AHeap} : aw PP grammarparser_reader_levels_c2 K env H = awOps PP [⟨some 4, none, .mov (.t 0)⟩, ⟨some 5, none, .call (.c (.fn (.func 53) [] [])) [.t 4]⟩, ⟨some 6, none, .fld 1 1 1 false (.t 5)⟩] (regK K [4, 5]) (panK K) env H := aw_reg _ _
def grammarparser_reader_levels_c3 : AC := .reg [⟨some 9, none, .bin (.eql) (.t 6) (.c (.str [108, 101, 102, 116]))⟩, ⟨some 8, none, .mov (.t 9)⟩] [9]
@[simp] theorem grammarparser_reader_levels_c3_eq {K : AK} {env : Env} {H : AHeap} : aw PP grammarparser_reader_levels_c3 K env H = awOps PP [⟨some 9, none, .bin (.eql) (.t 6) (.c (.str [108, 101, 102, 116]))⟩, ⟨some 8, none, .mov (.t 9)⟩] (regK K [9]) (panK K) env H := aw_reg _ _
def grammarparser_reader_levels_c4 : AC := .reg [⟨some 10, none, .mov (.t 3)⟩, ⟨some 11, none, .mov (.t 0)⟩, ⟨some 12, none, .call (.c (.fn (.func 57) [] [])) [.t 11, .c (.int (.i64) 1)]⟩, ⟨some 13, none, .bsl false 64 2 1 (.struct [.int (.i64) 0, .nils]) [(0, .t 12)]⟩, ⟨some 14, none, .app 64 2 32 (.t 10) (.t 13)⟩, ⟨some 3, none, .mov (.t 14)⟩] [6, 8, 10, 11, 12, 13, 14]
@[simp] theorem grammarparser_reader_levels_c4_eq {K : AK} {env : Env} {H : AHeap} : aw PP grammarparser_reader_levels_c4 K env H = awOps PP [⟨some 10, none, .mov (.t 3)⟩, ⟨some 11, none, .mov (.t 0)⟩, ⟨some 12, none, .call (.c (.fn (.func 57) [] [])) [.t 11, .c (.int (.i64) 1)]⟩, ⟨some 13, none, .bsl false 64 2 1 (.struct [.int (.i64) 0, .nils]) [(0, .t 12)]⟩, ⟨some 14, none, .app 64 2 32 (.t 10) (.t 13)⟩, ⟨some 3, none, .mov (.t 14)⟩] (regK K [6, 8, 10, 11, 12, 13, 14]) (panK K) env H := aw_reg _ _
def grammarparser_reader_levels_c5 : AC := .reg [⟨some 16, none, .bin (.eql) (.t 6) (.c (.str [114, 105, 103, 104, 116]))⟩, ⟨some 15, none, .mov (.t 16)⟩] [8, 16]
@[simp] theorem grammarparser_reader_levels_c5_eq {K : AK} {env : Env} {H : AHeap} : aw PP grammarparser_reader_levels_c5 K env H = awOps PP [⟨some 16, none, .bin (.eql) (.t 6) (.c (.str [114, 105, 103, 104, 116]))⟩, ⟨some 15, none, .mov (.t 16)⟩] (regK K [8, 16]) (panK K) env H := aw_reg _ _
def grammarparser_reader_levels_c6 : AC := .reg [⟨some 17, none, .mov (.t 3)⟩, ⟨some 18, none, .mov (.t 0)⟩, ⟨some 19, none, .call (.c (.fn (.func 57) [] [])) [.t 18, .c (.int (.i64) 2)]⟩, ⟨some 20, none, .bsl false 64 2 1 (.struct [.int (.i64) 0, .nils]) [(0, .t 19)]⟩, ⟨some 21, none, .app 64 2 32 (.t 17) (.t 20)⟩, ⟨some 3, none, .mov (.t 21)⟩] [6, 15, 17, 18, 19, 20, 21]
@[simp] theorem grammarparser_reader_levels_c6_eq {K : AK} {env : Env} {H : AHeap} : aw PP grammarparser_reader_levels_c6 K env H = awOps PP [⟨some 17, none, .mov (.t 3)⟩, ⟨some 18, none, .mov (.t 0)⟩, ⟨some 19, none, .call (.c (.fn (.func 57) [] [])) [.t 18, .c (.int (.i64) 2)]⟩, ⟨some 20, none, .bsl false 64 2 1 (.struct [.int (.i64) 0, .nils]) [(0, .t 19)]⟩, ⟨some 21, none, .app 64 2 32 (.t 17) (.t 20)⟩, ⟨some 3, none, .mov (.t 21)⟩] (regK K [6, 15, 17, 18, 19, 20, 21]) (panK K) env H := aw_reg _ _
def grammarparser_reader_levels_c7 : AC := .reg [⟨some 23, none, .bin (.eql) (.t 6) (.c (.str [110, 111, 110, 101]))⟩, ⟨some 22, none, .mov (.t 23)⟩] [6, 15, 23]
@[simp] theorem grammarparser_reader_levels_c7_eq {K : AK} {env : Env} {H : AHeap} : aw PP grammarparser_reader_levels_c7 K env H = awOps PP [⟨some 23, none, .bin (.eql) (.t 6) (.c (.str [110, 111, 110, 101]))⟩, ⟨some 22, none, .mov (.t 23)⟩] (regK K [6, 15, 23]) (panK K) env H := aw_reg _ _
def grammarparser_reader_levels_c8 : AC := .reg [⟨some 24, none, .mov (.t 3)⟩, ⟨some 25, none, .mov (.t 0)⟩, ⟨some 26, none, .call (.c (.fn (.func 57) [] [])) [.t 25, .c (.int (.i64) 3)]⟩, ⟨some 27, none, .bsl false 64 2 1 (.struct [.int (.i64) 0, .nils]) [(0, .t 26)]⟩, ⟨some 28, none, .app 64 2 32 (.t 24) (.t 27)⟩, ⟨some 3, none, .mov (.t 28)⟩] [22, 24, 25, 26, 27, 28]
@[simp] theorem grammarparser_reader_levels_c8_eq {K : AK} {env : Env} {H : AHeap} : aw PP grammarparser_reader_levels_c8 K env H = awOps PP [⟨some 24, none, .mov (.t 3)⟩, ⟨some 25, none, .mov (.t 0)⟩, ⟨some 26, none, .call (.c (.fn (.func 57) [] [])) [.t 25, .c (.int (.i64) 3)]⟩, ⟨some 27, none, .bsl false 64 2 1 (.struct [.int (.i64) 0, .nils]) [(0, .t 26)]⟩, ⟨some 28, none, .app 64 2 32 (.t 24) (.t 27)⟩, ⟨some 3, none, .mov (.t 28)⟩] (regK K [22, 24, 25, 26, 27, 28]) (panK K) env H := aw_reg _ _
def grammarparser_reader_levels_c9 : AC := .reg [⟨some 7, none, .mov (.t 3)⟩, ⟨some 2, none, .mov (.t 7)⟩] [0, 3, 7, 22]
@[simp] theorem grammarparser_reader_levels_c9_eq {K : AK} {env : Env} {H : AHeap} : aw PP grammarparser_reader_levels_c9 K env H = awOps PP [⟨some 7, none, .mov (.t 3)⟩, ⟨some 2, none, .mov (.t 7)⟩] (regK K [0, 3, 7, 22]) (panK K) env H := aw_reg _ _
def grammarparser_reader_levels_c10 : AC := .seq grammarparser_reader_levels_c9 .ret
@[simp] theorem grammarparser_reader_levels_c10_eq {K : AK} {env : Env} {H : AHeap} : aw PP grammarparser_reader_levels_c10 K env H = aw PP grammarparser_reader_levels_c9 (seqK PP .ret K) env H := aw_seq grammarparser_reader_levels_c9 .ret
def grammarparser_reader_levels_c11 : AC := .cond (.t 22) grammarparser_reader_levels_c8 grammarparser_reader_levels_c10
@[simp] theorem grammarparser_reader_levels_c11_eq {K : AK} {env : Env} {H : AHeap} : aw PP grammarparser_reader_levels_c11 K env H = condQ PP (Opd.ev env (.t 22)) grammarparser_reader_levels_c8 grammarparser_reader_levels_c10 K env H := aw_cond _ grammarparser_reader_levels_c8 grammarparser_reader_levels_c10
def grammarparser_reader_levels_c12 : AC := .seq grammarparser_reader_levels_c7 grammarparser_reader_levels_c11
@[simp] theorem grammarparser_reader_levels_c12_eq {K : AK} {env : Env} {H : AHeap} : aw PP grammarparser_reader_levels_c12 K env H = aw PP grammarparser_reader_levels_c7 (seqK PP grammarparser_reader_levels_c11 K) env H := aw_seq grammarparser_reader_levels_c7 grammarparser_reader_levels_c11
def grammarparser_reader_levels_c13 : AC := .cond (.t 15) grammarparser_reader_levels_c6 grammarparser_reader_levels_c12
@[simp] theorem grammarparser_reader_levels_c13_eq {K : AK} {env : Env} {H : AHeap} : aw PP grammarparser_reader_levels_c13 K env H = condQ PP (Opd.ev env (.t 15)) grammarparser_reader_levels_c6 grammarparser_reader_levels_c12 K env H := aw_cond _ grammarparser_reader_levels_c6 grammarparser_reader_levels_c12
def grammarparser_reader_levels_c14 : AC := .seq grammarparser_reader_levels_c5 grammarparser_reader_levels_c13
@[simp] theorem grammarparser_reader_levels_c14_eq {K : AK} {env : Env} {H : AHeap} : aw PP grammarparser_reader_levels_c14 K env H = aw PP grammarparser_reader_levels_c5 (seqK PP grammarparser_reader_levels_c13 K) env H := aw_seq grammarparser_reader_levels_c5 grammarparser_reader_levels_c13
def grammarparser_reader_levels_c15 : AC := .cond (.t 8) grammarparser_reader_levels_c4 grammarparser_reader_levels_c14
@[simp] theorem grammarparser_reader_levels_c15_eq {K : AK} {env : Env} {H : AHeap} : aw PP grammarparser_reader_levels_c15 K env H = condQ PP (Opd.ev env (.t 8)) grammarparser_reader_levels_c4 grammarparser_reader_levels_c14 K env H := aw_cond _ grammarparser_reader_levels_c4 grammarparser_reader_levels_c14
def grammarparser_reader_levels_c16 : AC := .seq grammarparser_reader_levels_c3 grammarparser_reader_levels_c15
@[simp] theorem grammarparser_reader_levels_c16_eq {K : AK} {env : Env} {H : AHeap} : aw PP grammarparser_reader_levels_c16 K env H = aw PP grammarparser_reader_levels_c3 (seqK PP grammarparser_reader_levels_c15 K) env H := aw_seq grammarparser_reader_levels_c3 grammarparser_reader_levels_c15
def grammarparser_reader_levels_c17 : AC := .block 2 grammarparser_reader_levels_c16
@[simp] theorem grammarparser_reader_levels_c17_eq {K : AK} {env : Env} {H : AHeap} : aw PP grammarparser_reader_levels_c17 K env H = aw PP grammarparser_reader_levels_c16 (blockK 2 K) env H := aw_block _ grammarparser_reader_levels_c16
def grammarparser_reader_levels_c18 : AC := .seq grammarparser_reader_levels_c2 grammarparser_reader_levels_c17
@[simp] theorem grammarparser_reader_levels_c18_eq {K : AK} {env : Env} {H : AHeap} : aw PP grammarparser_reader_levels_c18 K env H = aw PP grammarparser_reader_levels_c2 (seqK PP grammarparser_reader_levels_c17 K) env H := aw_seq grammarparser_reader_levels_c2 grammarparser_reader_levels_c17
def grammarparser_reader_levels_c19 : AC := .block 1 grammarparser_reader_levels_c18
@[simp] theorem grammarparser_reader_levels_c19_eq {K : AK} {env : Env} {H : AHeap} : aw PP grammarparser_reader_levels_c19 K env H = aw PP grammarparser_reader_levels_c18 (blockK 1 K) env H := aw_block _ grammarparser_reader_levels_c18
def grammarparser_reader_levels_c20 : AC := .loop grammarparser_reader_levels_c19
def grammarparser_reader_levels_c21 : AC := .block 0 grammarparser_reader_levels_c20
@[simp] theorem grammarparser_reader_levels_c21_eq {K : AK} {env : Env} {H : AHeap} : aw PP grammarparser_reader_levels_c21 K env H = aw PP grammarparser_reader_levels_c20 (blockK 0 K) env H := aw_block _ grammarparser_reader_levels_c20
def grammarparser_reader_levels_c22 : AC := .seq grammarparser_reader_levels_c1 grammarparser_reader_levels_c21
@[simp] theorem grammarparser_reader_levels_c22_eq {K : AK} {env : Env} {H : AHeap} : aw PP grammarparser_reader_levels_c22 K env H = aw PP grammarparser_reader_levels_c1 (seqK PP grammarparser_reader_levels_c21 K) env H := aw_seq grammarparser_reader_levels_c1 grammarparser_reader_levels_c21
def grammarparser_reader_levels_c23 : AC := .seq grammarparser_reader_levels_c0 grammarparser_reader_levels_c22
@[simp] theorem grammarparser_reader_levels_c23_eq {K : AK} {env : Env} {H : AHeap} : aw PP grammarparser_reader_levels_c23 K env H = aw PP grammarparser_reader_levels_c0 (seqK PP grammarparser_reader_levels_c22 K) env H := aw_seq grammarparser_reader_levels_c0 grammarparser_reader_levels_c22
def grammarparser_reader_levels_ac : AC := grammarparser_reader_levels_c23
@[simp] theorem grammarparser_reader_levels_ac_eq {K : AK} {env : Env} {H : AHeap} : aw PP grammarparser_reader_levels_ac K env H = aw PP grammarparser_reader_levels_c23 K env H := Eq.trans rfl rfl
def grammarparser_reader_levels_rs : List ARV := [.tmp 2]
abbrev grammarparser_reader_levels_id : Nat := 22
theorem grammarparser_reader_levels_comp : compF PP grammarparser_reader_levels_kl grammarparser_reader_levels_ow 1 Try.f22 = some (grammarparser_reader_levels_ac, grammarparser_reader_levels_rs) := by kernel_rfl
theorem grammarparser_reader_levels_enter {args : List AV} {H : AHeap} {post : ARes → AHeap → Prop} (ha : args.length = 1) (h : aw PP grammarparser_reader_levels_ac (retK grammarparser_reader_levels_rs post) (argEnv 0 args) H) : ACalls PP grammarparser_reader_levels_id args H post := .enterF Try.func22 PP_mix grammarparser_reader_levels_comp ha h

/-! (*emendate.grammarparser.reader).rule -/
def grammarparser_reader_rule_kl : Nat → List Nat
  | 1 => [5, 6, 7]
  | 2 => [8, 9]
  | 3 => [10, 11, 12, 13, 14, 15]
  | 4 => [16, 17, 18]
  | 5 => [19, 20, 21]
  | 6 => [22, 23, 24, 25, 26, 27]
  | 7 => [4, 28, 29]
  | 8 => [0, 19, 30, 31]
  | 9 => [3, 32]
  | _ => []
def grammarparser_reader_rule_ow : Nat → Nat → Bool := fun a b => (a == 3 && b == 0)
def grammarparser_reader_rule_c0 : AC := .reg [⟨some 2, none, .alloc (.struct [.str [], .nils]) 44⟩] []
@[simp] theorem grammarparser_reader_rule_c0_eq {K : AK} {env : Env} {H : AHeap} : aw PP grammarparser_reader_rule_c0 K env H = awOps PP [⟨some 2, none, .alloc (.struct [.str [], .nils]) 44⟩] (regK K []) (panK K) env H := aw_reg _ _
def grammarparser_reader_rule_c1 : AC := .reg [⟨some 5, none, .mov (.t 0)⟩, ⟨some 6, none, .call (.c (.fn (.func 21) [] [])) [.t 5]⟩, ⟨some 7, none, .build [.str [], .nils] [(0, .t 6)]⟩, ⟨some 3, none, .alloc (.struct [.str [], .nils]) 44⟩, ⟨none, none, .st 2 (.t 3) (.t 7)⟩] [5, 6, 7]
@[simp] theorem grammarparser_reader_rule_c1_eq {K : AK} {env : Env} {H : AHeap} : aw PP grammarparser_reader_rule_c1 K env H = awOps PP [⟨some 5, none, .mov (.t 0)⟩, ⟨some 6, none, .call (.c (.fn (.func 21) [] [])) [.t 5]⟩, ⟨some 7, none, .build [.str [], .nils] [(0, .t 6)]⟩, ⟨some 3, none, .alloc (.struct [.str [], .nils]) 44⟩, ⟨none, none, .st 2 (.t 3) (.t 7)⟩] (regK K [5, 6, 7]) (panK K) env H := aw_reg _ _
def grammarparser_reader_rule_c2 : AC := .reg [⟨some 8, none, .mov (.t 0)⟩, ⟨some 9, none, .call (.c (.fn (.func 20) [] [])) [.t 8, .c (.str [61])]⟩] [8, 9]
@[simp] theorem grammarparser_reader_rule_c2_eq {K : AK} {env : Env} {H : AHeap} : aw PP grammarparser_reader_rule_c2 K env H = awOps PP [⟨some 8, none, .mov (.t 0)⟩, ⟨some 9, none, .call (.c (.fn (.func 20) [] [])) [.t 8, .c (.str [61])]⟩] (regK K [8, 9]) (panK K) env H := aw_reg _ _
def grammarparser_reader_rule_c3 : AC := .reg [⟨some 10, none, .bsl true 49 4 0 (.struct [.struct [.int (.i64) 0, .str [], .nils], .int (.i64) 0]) []⟩, ⟨some 11, none, .mov (.t 0)⟩, ⟨some 12, none, .call (.c (.fn (.func 58) [] [])) [.t 11]⟩, ⟨some 13, none, .bsl false 49 4 1 (.struct [.struct [.int (.i64) 0, .str [], .nils], .int (.i64) 0]) [(0, .t 12)]⟩, ⟨some 14, none, .app 49 4 56 (.t 10) (.t 13)⟩, ⟨some 15, none, .fa 1 1 (.t 3)⟩, ⟨none, none, .st 1 (.t 15) (.t 14)⟩] [10, 11, 12, 13, 14, 15]
@[simp] theorem grammarparser_reader_rule_c3_eq {K : AK} {env : Env} {H : AHeap} : aw PP grammarparser_reader_rule_c3 K env H = awOps PP [⟨some 10, none, .bsl true 49 4 0 (.struct [.struct [.int (.i64) 0, .str [], .nils], .int (.i64) 0]) []⟩, ⟨some 11, none, .mov (.t 0)⟩, ⟨some 12, none, .call (.c (.fn (.func 58) [] [])) [.t 11]⟩, ⟨some 13, none, .bsl false 49 4 1 (.struct [.struct [.int (.i64) 0, .str [], .nils], .int (.i64) 0]) [(0, .t 12)]⟩, ⟨some 14, none, .app 49 4 56 (.t 10) (.t 13)⟩, ⟨some 15, none, .fa 1 1 (.t 3)⟩, ⟨none, none, .st 1 (.t 15) (.t 14)⟩] (regK K [10, 11, 12, 13, 14, 15]) (panK K) env H := aw_reg _ _
def grammarparser_reader_rule_c4 : AC := .reg [⟨some 16, none, .mov (.t 0)⟩, ⟨some 17, none, .call (.c (.fn (.func 53) [] [])) [.t 16]⟩, ⟨some 18, none, .fld 1 1 1 false (.t 17)⟩, ⟨some 19, none, .bin (.eql) (.t 18) (.c (.str [124]))⟩] [16, 17, 18]
@[simp] theorem grammarparser_reader_rule_c4_eq {K : AK} {env : Env} {H : AHeap} : aw PP grammarparser_reader_rule_c4 K env H = awOps PP [⟨some 16, none, .mov (.t 0)⟩, ⟨some 17, none, .call (.c (.fn (.func 53) [] [])) [.t 16]⟩, ⟨some 18, none, .fld 1 1 1 false (.t 17)⟩, ⟨some 19, none, .bin (.eql) (.t 18) (.c (.str [124]))⟩] (regK K [16, 17, 18]) (panK K) env H := aw_reg _ _
def grammarparser_reader_rule_c5 : AC := .cond (.t 19) .skip (.exit 0)
@[simp] theorem grammarparser_reader_rule_c5_eq {K : AK} {env : Env} {H : AHeap} : aw PP grammarparser_reader_rule_c5 K env H = condQ PP (Opd.ev env (.t 19)) .skip (.exit 0) K env H := aw_cond _ .skip (.exit 0)
def grammarparser_reader_rule_c6 : AC := .seq grammarparser_reader_rule_c4 grammarparser_reader_rule_c5
@[simp] theorem grammarparser_reader_rule_c6_eq {K : AK} {env : Env} {H : AHeap} : aw PP grammarparser_reader_rule_c6 K env H = aw PP grammarparser_reader_rule_c4 (seqK PP grammarparser_reader_rule_c5 K) env H := aw_seq grammarparser_reader_rule_c4 grammarparser_reader_rule_c5
def grammarparser_reader_rule_c7 : AC := .reg [⟨some 20, none, .mov (.t 0)⟩, ⟨some 21, none, .call (.c (.fn (.func 55) [] [])) [.t 20]⟩] [19, 20, 21]
@[simp] theorem grammarparser_reader_rule_c7_eq {K : AK} {env : Env} {H : AHeap} : aw PP grammarparser_reader_rule_c7 K env H = awOps PP [⟨some 20, none, .mov (.t 0)⟩, ⟨some 21, none, .call (.c (.fn (.func 55) [] [])) [.t 20]⟩] (regK K [19, 20, 21]) (panK K) env H := aw_reg _ _
def grammarparser_reader_rule_c8_ops : List (AI × List Nat) := [(⟨some 22, none, .fa 1 1 (.t 3)⟩, []), (⟨some 23, none, .ld false 1 (.t 22)⟩, [0]), (⟨some 24, none, .mov (.t 0)⟩, []), (⟨some 25, none, .call (.c (.fn (.func 58) [] [])) [.t 24]⟩, [2]), (⟨some 26, none, .bsl false 49 4 1 (.struct [.struct [.int (.i64) 0, .str [], .nils], .int (.i64) 0]) [(0, .t 25)]⟩, [3]), (⟨some 27, none, .app 49 4 56 (.t 23) (.t 26)⟩, [1, 4, 3]), (⟨some 4, none, .mov (.t 27)⟩, [5, 5, 0, 1, 2, 3, 4, 5])]
def grammarparser_reader_rule_c8 : AC := .dreg grammarparser_reader_rule_c8_ops [22, 23, 24, 25, 26, 27]
theorem grammarparser_reader_rule_c8_ok : lexOK grammarparser_reader_rule_c8_ops (fun i => [5].contains i) = true := by kernel_rfl
theorem grammarparser_reader_rule_c8_lex {K : AK} {env : Env} {H : AHeap} (h : awLex PP (fun i => [5].contains i) (regK K [22, 23, 24, 25, 26, 27]) (panK K) [(0, ⟨some 22, none, .fa 1 1 (.t 3)⟩), (1, ⟨some 23, none, .ld false 1 (.t 22)⟩), (2, ⟨some 24, none, .mov (.t 0)⟩), (3, ⟨some 25, none, .call (.c (.fn (.func 58) [] [])) [.t 24]⟩), (4, ⟨some 26, none, .bsl false 49 4 1 (.struct [.struct [.int (.i64) 0, .str [], .nils], .int (.i64) 0]) [(0, .t 25)]⟩), (5, ⟨some 27, none, .app 49 4 56 (.t 23) (.t 26)⟩), (6, ⟨some 4, none, .mov (.t 27)⟩)] env H) : aw PP grammarparser_reader_rule_c8 K env H := aw_dreg_lex _ grammarparser_reader_rule_c8_ok h
theorem grammarparser_reader_rule_c8_okF : lexOKF grammarparser_reader_rule_c8_ops 5 (fun i => [3, 5].contains i) = true := by kernel_rfl
theorem grammarparser_reader_rule_c8_lexF {K : AK} {env : Env} {H : AHeap} (B : List Nat) (h : awLexF PP 5 (fun i => [3, 5].contains i) B H (regK K [22, 23, 24, 25, 26, 27]) (panK K) [(0, ⟨some 22, none, .fa 1 1 (.t 3)⟩), (1, ⟨some 23, none, .ld false 1 (.t 22)⟩), (2, ⟨some 24, none, .mov (.t 0)⟩), (3, ⟨some 25, none, .call (.c (.fn (.func 58) [] [])) [.t 24]⟩), (4, ⟨some 26, none, .bsl false 49 4 1 (.struct [.struct [.int (.i64) 0, .str [], .nils], .int (.i64) 0]) [(0, .t 25)]⟩), (5, ⟨some 27, none, .app 49 4 56 (.t 23) (.t 26)⟩), (6, ⟨some 4, none, .mov (.t 27)⟩)] env H) : aw PP grammarparser_reader_rule_c8 K env H := aw_dreg_lexF _ _ B grammarparser_reader_rule_c8_okF h
def grammarparser_reader_rule_c9 : AC := .reg [⟨some 28, none, .mov (.t 4)⟩, ⟨some 29, none, .fa 1 1 (.t 3)⟩, ⟨none, none, .st 1 (.t 29) (.t 28)⟩] [4, 28, 29]
@[simp] theorem grammarparser_reader_rule_c9_eq {K : AK} {env : Env} {H : AHeap} : aw PP grammarparser_reader_rule_c9 K env H = awOps PP [⟨some 28, none, .mov (.t 4)⟩, ⟨some 29, none, .fa 1 1 (.t 3)⟩, ⟨none, none, .st 1 (.t 29) (.t 28)⟩] (regK K [4, 28, 29]) (panK K) env H := aw_reg _ _
def grammarparser_reader_rule_c10 : AC := .seq grammarparser_reader_rule_c8 grammarparser_reader_rule_c9
@[simp] theorem grammarparser_reader_rule_c10_eq {K : AK} {env : Env} {H : AHeap} : aw PP grammarparser_reader_rule_c10 K env H = aw PP grammarparser_reader_rule_c8 (seqK PP grammarparser_reader_rule_c9 K) env H := aw_seq grammarparser_reader_rule_c8 grammarparser_reader_rule_c9
def grammarparser_reader_rule_c11 : AC := .seq grammarparser_reader_rule_c7 grammarparser_reader_rule_c10
@[simp] theorem grammarparser_reader_rule_c11_eq {K : AK} {env : Env} {H : AHeap} : aw PP grammarparser_reader_rule_c11 K env H = aw PP grammarparser_reader_rule_c7 (seqK PP grammarparser_reader_rule_c10 K) env H := aw_seq grammarparser_reader_rule_c7 grammarparser_reader_rule_c10
def grammarparser_reader_rule_c12 : AC := .block 1 grammarparser_reader_rule_c11
@[simp] theorem grammarparser_reader_rule_c12_eq {K : AK} {env : Env} {H : AHeap} : aw PP grammarparser_reader_rule_c12 K env H = aw PP grammarparser_reader_rule_c11 (blockK 1 K) env H := aw_block _ grammarparser_reader_rule_c11
def grammarparser_reader_rule_c13 : AC := .seq grammarparser_reader_rule_c6 grammarparser_reader_rule_c12
@[simp] theorem grammarparser_reader_rule_c13_eq {K : AK} {env : Env} {H : AHeap} : aw PP grammarparser_reader_rule_c13 K env H = aw PP grammarparser_reader_rule_c6 (seqK PP grammarparser_reader_rule_c12 K) env H := aw_seq grammarparser_reader_rule_c6 grammarparser_reader_rule_c12
def grammarparser_reader_rule_c14 : AC := .loop grammarparser_reader_rule_c13
def grammarparser_reader_rule_c15 : AC := .block 0 grammarparser_reader_rule_c14
@[simp] theorem grammarparser_reader_rule_c15_eq {K : AK} {env : Env} {H : AHeap} : aw PP grammarparser_reader_rule_c15 K env H = aw PP grammarparser_reader_rule_c14 (blockK 0 K) env H := aw_block _ grammarparser_reader_rule_c14
def grammarparser_reader_rule_c16 : AC := .reg [⟨some 30, none, .mov (.t 0)⟩, ⟨some 31, none, .call (.c (.fn (.func 20) [] [])) [.t 30, .c (.str [59])]⟩] [0, 19, 30, 31]
@[simp] theorem grammarparser_reader_rule_c16_eq {K : AK} {env : Env} {H : AHeap} : aw PP grammarparser_reader_rule_c16 K env H = awOps PP [⟨some 30, none, .mov (.t 0)⟩, ⟨some 31, none, .call (.c (.fn (.func 20) [] [])) [.t 30, .c (.str [59])]⟩] (regK K [0, 19, 30, 31]) (panK K) env H := aw_reg _ _
def grammarparser_reader_rule_c17 : AC := .reg [⟨some 32, none, .ld true 2 (.t 3)⟩, ⟨none, none, .st 2 (.t 2) (.t 32)⟩] [3, 32]
@[simp] theorem grammarparser_reader_rule_c17_eq {K : AK} {env : Env} {H : AHeap} : aw PP grammarparser_reader_rule_c17 K env H = awOps PP [⟨some 32, none, .ld true 2 (.t 3)⟩, ⟨none, none, .st 2 (.t 2) (.t 32)⟩] (regK K [3, 32]) (panK K) env H := aw_reg _ _
def grammarparser_reader_rule_c18 : AC := .seq grammarparser_reader_rule_c17 .ret
@[simp] theorem grammarparser_reader_rule_c18_eq {K : AK} {env : Env} {H : AHeap} : aw PP grammarparser_reader_rule_c18 K env H = aw PP grammarparser_reader_rule_c17 (seqK PP .ret K) env H := aw_seq grammarparser_reader_rule_c17 .ret
def grammarparser_reader_rule_c19 : AC := .seq grammarparser_reader_rule_c16 grammarparser_reader_rule_c18
@[simp] theorem grammarparser_reader_rule_c19_eq {K : AK} {env : Env} {H : AHeap} : aw PP grammarparser_reader_rule_c19 K env H = aw PP grammarparser_reader_rule_c16 (seqK PP grammarparser_reader_rule_c18 K) env H := aw_seq grammarparser_reader_rule_c16 grammarparser_reader_rule_c18
def grammarparser_reader_rule_c20 : AC := .seq grammarparser_reader_rule_c15 grammarparser_reader_rule_c19
@[simp] theorem grammarparser_reader_rule_c20_eq {K : AK} {env : Env} {H : AHeap} : aw PP grammarparser_reader_rule_c20 K env H = aw PP grammarparser_reader_rule_c15 (seqK PP grammarparser_reader_rule_c19 K) env H := aw_seq grammarparser_reader_rule_c15 grammarparser_reader_rule_c19
def grammarparser_reader_rule_c21 : AC := .seq grammarparser_reader_rule_c3 grammarparser_reader_rule_c20
@[simp] theorem grammarparser_reader_rule_c21_eq {K : AK} {env : Env} {H : AHeap} : aw PP grammarparser_reader_rule_c21 K env H = aw PP grammarparser_reader_rule_c3 (seqK PP grammarparser_reader_rule_c20 K) env H := aw_seq grammarparser_reader_rule_c3 grammarparser_reader_rule_c20
def grammarparser_reader_rule_c22 : AC := .seq grammarparser_reader_rule_c2 grammarparser_reader_rule_c21
@[simp] theorem grammarparser_reader_rule_c22_eq {K : AK} {env : Env} {H : AHeap} : aw PP grammarparser_reader_rule_c22 K env H = aw PP grammarparser_reader_rule_c2 (seqK PP grammarparser_reader_rule_c21 K) env H := aw_seq grammarparser_reader_rule_c2 grammarparser_reader_rule_c21
def grammarparser_reader_rule_c23 : AC := .seq grammarparser_reader_rule_c1 grammarparser_reader_rule_c22
@[simp] theorem grammarparser_reader_rule_c23_eq {K : AK} {env : Env} {H : AHeap} : aw PP grammarparser_reader_rule_c23 K env H = aw PP grammarparser_reader_rule_c1 (seqK PP grammarparser_reader_rule_c22 K) env H := aw_seq grammarparser_reader_rule_c1 grammarparser_reader_rule_c22
def grammarparser_reader_rule_c24 : AC := .seq grammarparser_reader_rule_c0 grammarparser_reader_rule_c23
@[simp] theorem grammarparser_reader_rule_c24_eq {K : AK} {env : Env} {H : AHeap} : aw PP grammarparser_reader_rule_c24 K env H = aw PP grammarparser_reader_rule_c0 (seqK PP grammarparser_reader_rule_c23 K) env H := aw_seq grammarparser_reader_rule_c0 grammarparser_reader_rule_c23
def grammarparser_reader_rule_ac : AC := grammarparser_reader_rule_c24
@[simp] theorem grammarparser_reader_rule_ac_eq {K : AK} {env : Env} {H : AHeap} : aw PP grammarparser_reader_rule_ac K env H = aw PP grammarparser_reader_rule_c24 K env H := Eq.trans rfl rfl
def grammarparser_reader_rule_rs : List ARV := [.cell 2 true 2]
abbrev grammarparser_reader_rule_id : Nat := 23
theorem grammarparser_reader_rule_comp : compF PP grammarparser_reader_rule_kl grammarparser_reader_rule_ow 1 Try.f23 = some (grammarparser_reader_rule_ac, grammarparser_reader_rule_rs) := by kernel_rfl
theorem grammarparser_reader_rule_enter {args : List AV} {H : AHeap} {post : ARes → AHeap → Prop} (ha : args.length = 1) (h : aw PP grammarparser_reader_rule_ac (retK grammarparser_reader_rule_rs post) (argEnv 0 args) H) : ACalls PP grammarparser_reader_rule_id args H post := .enterF Try.func23 PP_mix grammarparser_reader_rule_comp ha h

/-! emendate.grammarfile.Valid -/
def grammarfile_Valid_kl : Nat → List Nat
  | 0 => [0, 2]
  | 1 => [9, 10, 11, 12, 13, 14, 15, 16, 17]
  | 2 => [1, 18]
  | 3 => [18]
  | 4 => [19]
  | 6 => [23, 24, 25]
  | 7 => [26, 27]
  | 8 => [1, 3, 4, 6, 20, 21, 22, 28]
  | 9 => [6, 28, 29, 30, 31, 32, 33]
  | 10 => [34]
  | 11 => [20, 21, 22, 23, 35]
  | 13 => [39, 40, 41]
  | 14 => [42, 43, 44, 45, 46, 47, 48, 49, 50, 51, 52, 53, 54]
  | 15 => [1, 3, 4, 8, 36, 37, 38, 55]
  | 16 => [8, 55, 56, 57, 58, 59]
  | 17 => [60]
  | 18 => [1, 3, 4, 36, 37, 38, 39, 61, 62, 63, 64, 65, 66, 67, 68, 69, 70, 71, 72]
  | _ => []
def grammarfile_Valid_ow : Nat → Nat → Bool := fun _ _ => false
def grammarfile_Valid_c0 : AC := .reg [⟨some 1, none, .box (.t 0) 3 26⟩, ⟨some 2, none, .mov (.c (.bool false))⟩] [0, 2]
@[simp] theorem grammarfile_Valid_c0_eq {K : AK} {env : Env} {H : AHeap} : aw PP grammarfile_Valid_c0 K env H = awOps PP [⟨some 1, none, .box (.t 0) 3 26⟩, ⟨some 2, none, .mov (.c (.bool false))⟩] (regK K [0, 2]) (panK K) env H := aw_reg _ _
def grammarfile_Valid_c1 : AC := .reg [⟨some 9, none, .fa 2 2 (.t 1)⟩, ⟨some 10, none, .ld false 1 (.t 9)⟩, ⟨some 11, none, .lenl (.t 10)⟩, ⟨some 12, none, .bin (.lss) (.t 11) (.c (.int (.i64) 1))⟩, ⟨some 13, none, .mov (.t 12)⟩, ⟨some 14, some (13, false), .fa 2 2 (.t 1)⟩, ⟨some 15, some (13, false), .ld false 1 (.t 14)⟩, ⟨some 16, some (13, false), .lenl (.t 15)⟩, ⟨some 17, some (13, false), .bin (.gtr) (.t 16) (.c (.int (.i64) 120))⟩, ⟨some 18, none, .pick (.t 13) (.c (.bool true)) (.t 17)⟩] [9, 10, 11, 12, 13, 14, 15, 16, 17]
@[simp] theorem grammarfile_Valid_c1_eq {K : AK} {env : Env} {H : AHeap} : aw PP grammarfile_Valid_c1 K env H = awOps PP [⟨some 9, none, .fa 2 2 (.t 1)⟩, ⟨some 10, none, .ld false 1 (.t 9)⟩, ⟨some 11, none, .lenl (.t 10)⟩, ⟨some 12, none, .bin (.lss) (.t 11) (.c (.int (.i64) 1))⟩, ⟨some 13, none, .mov (.t 12)⟩, ⟨some 14, some (13, false), .fa 2 2 (.t 1)⟩, ⟨some 15, some (13, false), .ld false 1 (.t 14)⟩, ⟨some 16, some (13, false), .lenl (.t 15)⟩, ⟨some 17, some (13, false), .bin (.gtr) (.t 16) (.c (.int (.i64) 120))⟩, ⟨some 18, none, .pick (.t 13) (.c (.bool true)) (.t 17)⟩] (regK K [9, 10, 11, 12, 13, 14, 15, 16, 17]) (panK K) env H := aw_reg _ _
def grammarfile_Valid_c2 : AC := .reg [⟨some 2, none, .mov (.c (.bool false))⟩] [1, 18]
@[simp] theorem grammarfile_Valid_c2_eq {K : AK} {env : Env} {H : AHeap} : aw PP grammarfile_Valid_c2 K env H = awOps PP [⟨some 2, none, .mov (.c (.bool false))⟩] (regK K [1, 18]) (panK K) env H := aw_reg _ _
def grammarfile_Valid_c3 : AC := .seq grammarfile_Valid_c2 .ret
@[simp] theorem grammarfile_Valid_c3_eq {K : AK} {env : Env} {H : AHeap} : aw PP grammarfile_Valid_c3 K env H = aw PP grammarfile_Valid_c2 (seqK PP .ret K) env H := aw_seq grammarfile_Valid_c2 .ret
def grammarfile_Valid_c4 : AC := .cond (.t 18) grammarfile_Valid_c3 .skip
@[simp] theorem grammarfile_Valid_c4_eq {K : AK} {env : Env} {H : AHeap} : aw PP grammarfile_Valid_c4 K env H = condQ PP (Opd.ev env (.t 18)) grammarfile_Valid_c3 .skip K env H := aw_cond _ grammarfile_Valid_c3 .skip
def grammarfile_Valid_c5 : AC := .seq grammarfile_Valid_c1 grammarfile_Valid_c4
@[simp] theorem grammarfile_Valid_c5_eq {K : AK} {env : Env} {H : AHeap} : aw PP grammarfile_Valid_c5 K env H = aw PP grammarfile_Valid_c1 (seqK PP grammarfile_Valid_c4 K) env H := aw_seq grammarfile_Valid_c1 grammarfile_Valid_c4
def grammarfile_Valid_c6 : AC := .reg [⟨some 3, none, .mov (.c (.nils))⟩, ⟨some 4, none, .mov (.c (.nils))⟩] [18]
@[simp] theorem grammarfile_Valid_c6_eq {K : AK} {env : Env} {H : AHeap} : aw PP grammarfile_Valid_c6 K env H = awOps PP [⟨some 3, none, .mov (.c (.nils))⟩, ⟨some 4, none, .mov (.c (.nils))⟩] (regK K [18]) (panK K) env H := aw_reg _ _
def grammarfile_Valid_c7 : AC := .reg [⟨some 19, none, .fa 2 2 (.t 1)⟩, ⟨some 20, none, .ld false 1 (.t 19)⟩, ⟨some 21, none, .lenl (.t 20)⟩, ⟨some 22, none, .mov (.c (.int (.i64) 0))⟩] [19]
@[simp] theorem grammarfile_Valid_c7_eq {K : AK} {env : Env} {H : AHeap} : aw PP grammarfile_Valid_c7 K env H = awOps PP [⟨some 19, none, .fa 2 2 (.t 1)⟩, ⟨some 20, none, .ld false 1 (.t 19)⟩, ⟨some 21, none, .lenl (.t 20)⟩, ⟨some 22, none, .mov (.c (.int (.i64) 0))⟩] (regK K [19]) (panK K) env H := aw_reg _ _
def grammarfile_Valid_c8 : AC := .reg [⟨some 23, none, .bin (.lss) (.t 22) (.t 21)⟩] []
@[simp] theorem grammarfile_Valid_c8_eq {K : AK} {env : Env} {H : AHeap} : aw PP grammarfile_Valid_c8 K env H = awOps PP [⟨some 23, none, .bin (.lss) (.t 22) (.t 21)⟩] (regK K []) (panK K) env H := aw_reg _ _
def grammarfile_Valid_c9 : AC := .cond (.t 23) .skip (.exit 0)
@[simp] theorem grammarfile_Valid_c9_eq {K : AK} {env : Env} {H : AHeap} : aw PP grammarfile_Valid_c9 K env H = condQ PP (Opd.ev env (.t 23)) .skip (.exit 0) K env H := aw_cond _ .skip (.exit 0)
def grammarfile_Valid_c10 : AC := .reg [⟨some 24, none, .ixa 2 (.t 20) (.t 22)⟩, ⟨some 25, none, .ld true 2 (.t 24)⟩, ⟨some 6, none, .alloc (.struct [.str [], .nils]) 44⟩, ⟨none, none, .st 2 (.t 6) (.t 25)⟩] [23, 24, 25]
@[simp] theorem grammarfile_Valid_c10_eq {K : AK} {env : Env} {H : AHeap} : aw PP grammarfile_Valid_c10 K env H = awOps PP [⟨some 24, none, .ixa 2 (.t 20) (.t 22)⟩, ⟨some 25, none, .ld true 2 (.t 24)⟩, ⟨some 6, none, .alloc (.struct [.str [], .nils]) 44⟩, ⟨none, none, .st 2 (.t 6) (.t 25)⟩] (regK K [23, 24, 25]) (panK K) env H := aw_reg _ _
def grammarfile_Valid_c11 : AC := .reg [⟨some 26, none, .ld true 2 (.t 6)⟩, ⟨some 27, none, .call (.c (.fn (.func 59) [] [])) [.t 26]⟩, ⟨some 28, none, .not (.t 27)⟩] [26, 27]
@[simp] theorem grammarfile_Valid_c11_eq {K : AK} {env : Env} {H : AHeap} : aw PP grammarfile_Valid_c11 K env H = awOps PP [⟨some 26, none, .ld true 2 (.t 6)⟩, ⟨some 27, none, .call (.c (.fn (.func 59) [] [])) [.t 26]⟩, ⟨some 28, none, .not (.t 27)⟩] (regK K [26, 27]) (panK K) env H := aw_reg _ _
def grammarfile_Valid_c12 : AC := .reg [⟨some 2, none, .mov (.c (.bool false))⟩] [1, 3, 4, 6, 20, 21, 22, 28]
@[simp] theorem grammarfile_Valid_c12_eq {K : AK} {env : Env} {H : AHeap} : aw PP grammarfile_Valid_c12 K env H = awOps PP [⟨some 2, none, .mov (.c (.bool false))⟩] (regK K [1, 3, 4, 6, 20, 21, 22, 28]) (panK K) env H := aw_reg _ _
def grammarfile_Valid_c13 : AC := .seq grammarfile_Valid_c12 .ret
@[simp] theorem grammarfile_Valid_c13_eq {K : AK} {env : Env} {H : AHeap} : aw PP grammarfile_Valid_c13 K env H = aw PP grammarfile_Valid_c12 (seqK PP .ret K) env H := aw_seq grammarfile_Valid_c12 .ret
def grammarfile_Valid_c14 : AC := .cond (.t 28) grammarfile_Valid_c13 .skip
@[simp] theorem grammarfile_Valid_c14_eq {K : AK} {env : Env} {H : AHeap} : aw PP grammarfile_Valid_c14 K env H = condQ PP (Opd.ev env (.t 28)) grammarfile_Valid_c13 .skip K env H := aw_cond _ grammarfile_Valid_c13 .skip
def grammarfile_Valid_c15 : AC := .seq grammarfile_Valid_c11 grammarfile_Valid_c14
@[simp] theorem grammarfile_Valid_c15_eq {K : AK} {env : Env} {H : AHeap} : aw PP grammarfile_Valid_c15 K env H = aw PP grammarfile_Valid_c11 (seqK PP grammarfile_Valid_c14 K) env H := aw_seq grammarfile_Valid_c11 grammarfile_Valid_c14
def grammarfile_Valid_c16 : AC := .reg [⟨some 29, none, .mov (.t 3)⟩, ⟨some 30, none, .fa 0 0 (.t 6)⟩, ⟨some 31, none, .ld false 1 (.t 30)⟩, ⟨some 32, none, .bsl false 9 1 1 (.str []) [(0, .t 31)]⟩, ⟨some 33, none, .app 9 1 16 (.t 29) (.t 32)⟩, ⟨some 3, none, .mov (.t 33)⟩] [6, 28, 29, 30, 31, 32, 33]
@[simp] theorem grammarfile_Valid_c16_eq {K : AK} {env : Env} {H : AHeap} : aw PP grammarfile_Valid_c16 K env H = awOps PP [⟨some 29, none, .mov (.t 3)⟩, ⟨some 30, none, .fa 0 0 (.t 6)⟩, ⟨some 31, none, .ld false 1 (.t 30)⟩, ⟨some 32, none, .bsl false 9 1 1 (.str []) [(0, .t 31)]⟩, ⟨some 33, none, .app 9 1 16 (.t 29) (.t 32)⟩, ⟨some 3, none, .mov (.t 33)⟩] (regK K [6, 28, 29, 30, 31, 32, 33]) (panK K) env H := aw_reg _ _
def grammarfile_Valid_c17 : AC := .seq grammarfile_Valid_c15 grammarfile_Valid_c16
@[simp] theorem grammarfile_Valid_c17_eq {K : AK} {env : Env} {H : AHeap} : aw PP grammarfile_Valid_c17 K env H = aw PP grammarfile_Valid_c15 (seqK PP grammarfile_Valid_c16 K) env H := aw_seq grammarfile_Valid_c15 grammarfile_Valid_c16
def grammarfile_Valid_c18 : AC := .seq grammarfile_Valid_c10 grammarfile_Valid_c17
@[simp] theorem grammarfile_Valid_c18_eq {K : AK} {env : Env} {H : AHeap} : aw PP grammarfile_Valid_c18 K env H = aw PP grammarfile_Valid_c10 (seqK PP grammarfile_Valid_c17 K) env H := aw_seq grammarfile_Valid_c10 grammarfile_Valid_c17
def grammarfile_Valid_c19 : AC := .block 1 grammarfile_Valid_c18
@[simp] theorem grammarfile_Valid_c19_eq {K : AK} {env : Env} {H : AHeap} : aw PP grammarfile_Valid_c19 K env H = aw PP grammarfile_Valid_c18 (blockK 1 K) env H := aw_block _ grammarfile_Valid_c18
def grammarfile_Valid_c20 : AC := .reg [⟨some 34, none, .bin (.add) (.t 22) (.c (.int (.i64) 1))⟩, ⟨some 22, none, .mov (.t 34)⟩] [34]
@[simp] theorem grammarfile_Valid_c20_eq {K : AK} {env : Env} {H : AHeap} : aw PP grammarfile_Valid_c20 K env H = awOps PP [⟨some 34, none, .bin (.add) (.t 22) (.c (.int (.i64) 1))⟩, ⟨some 22, none, .mov (.t 34)⟩] (regK K [34]) (panK K) env H := aw_reg _ _
def grammarfile_Valid_c21 : AC := .seq grammarfile_Valid_c19 grammarfile_Valid_c20
@[simp] theorem grammarfile_Valid_c21_eq {K : AK} {env : Env} {H : AHeap} : aw PP grammarfile_Valid_c21 K env H = aw PP grammarfile_Valid_c19 (seqK PP grammarfile_Valid_c20 K) env H := aw_seq grammarfile_Valid_c19 grammarfile_Valid_c20
def grammarfile_Valid_c22 : AC := .seq grammarfile_Valid_c9 grammarfile_Valid_c21
@[simp] theorem grammarfile_Valid_c22_eq {K : AK} {env : Env} {H : AHeap} : aw PP grammarfile_Valid_c22 K env H = aw PP grammarfile_Valid_c9 (seqK PP grammarfile_Valid_c21 K) env H := aw_seq grammarfile_Valid_c9 grammarfile_Valid_c21
def grammarfile_Valid_c23 : AC := .seq grammarfile_Valid_c8 grammarfile_Valid_c22
@[simp] theorem grammarfile_Valid_c23_eq {K : AK} {env : Env} {H : AHeap} : aw PP grammarfile_Valid_c23 K env H = aw PP grammarfile_Valid_c8 (seqK PP grammarfile_Valid_c22 K) env H := aw_seq grammarfile_Valid_c8 grammarfile_Valid_c22
def grammarfile_Valid_c24 : AC := .loop grammarfile_Valid_c23
def grammarfile_Valid_c25 : AC := .block 0 grammarfile_Valid_c24
@[simp] theorem grammarfile_Valid_c25_eq {K : AK} {env : Env} {H : AHeap} : aw PP grammarfile_Valid_c25 K env H = aw PP grammarfile_Valid_c24 (blockK 0 K) env H := aw_block _ grammarfile_Valid_c24
def grammarfile_Valid_c26 : AC := .seq grammarfile_Valid_c7 grammarfile_Valid_c25
@[simp] theorem grammarfile_Valid_c26_eq {K : AK} {env : Env} {H : AHeap} : aw PP grammarfile_Valid_c26 K env H = aw PP grammarfile_Valid_c7 (seqK PP grammarfile_Valid_c25 K) env H := aw_seq grammarfile_Valid_c7 grammarfile_Valid_c25
def grammarfile_Valid_c27 : AC := .reg [⟨some 35, none, .fa 1 1 (.t 1)⟩, ⟨some 36, none, .ld false 1 (.t 35)⟩, ⟨some 37, none, .lenl (.t 36)⟩, ⟨some 38, none, .mov (.c (.int (.i64) 0))⟩] [20, 21, 22, 23, 35]
@[simp] theorem grammarfile_Valid_c27_eq {K : AK} {env : Env} {H : AHeap} : aw PP grammarfile_Valid_c27 K env H = awOps PP [⟨some 35, none, .fa 1 1 (.t 1)⟩, ⟨some 36, none, .ld false 1 (.t 35)⟩, ⟨some 37, none, .lenl (.t 36)⟩, ⟨some 38, none, .mov (.c (.int (.i64) 0))⟩] (regK K [20, 21, 22, 23, 35]) (panK K) env H := aw_reg _ _
def grammarfile_Valid_c28 : AC := .reg [⟨some 39, none, .bin (.lss) (.t 38) (.t 37)⟩] []
@[simp] theorem grammarfile_Valid_c28_eq {K : AK} {env : Env} {H : AHeap} : aw PP grammarfile_Valid_c28 K env H = awOps PP [⟨some 39, none, .bin (.lss) (.t 38) (.t 37)⟩] (regK K []) (panK K) env H := aw_reg _ _
def grammarfile_Valid_c29 : AC := .cond (.t 39) .skip (.exit 2)
@[simp] theorem grammarfile_Valid_c29_eq {K : AK} {env : Env} {H : AHeap} : aw PP grammarfile_Valid_c29 K env H = condQ PP (Opd.ev env (.t 39)) .skip (.exit 2) K env H := aw_cond _ .skip (.exit 2)
def grammarfile_Valid_c30 : AC := .reg [⟨some 40, none, .ixa 2 (.t 36) (.t 38)⟩, ⟨some 41, none, .ld true 2 (.t 40)⟩, ⟨some 8, none, .alloc (.struct [.int (.i64) 0, .nils]) 64⟩, ⟨none, none, .st 2 (.t 8) (.t 41)⟩] [39, 40, 41]
@[simp] theorem grammarfile_Valid_c30_eq {K : AK} {env : Env} {H : AHeap} : aw PP grammarfile_Valid_c30 K env H = awOps PP [⟨some 40, none, .ixa 2 (.t 36) (.t 38)⟩, ⟨some 41, none, .ld true 2 (.t 40)⟩, ⟨some 8, none, .alloc (.struct [.int (.i64) 0, .nils]) 64⟩, ⟨none, none, .st 2 (.t 8) (.t 41)⟩] (regK K [39, 40, 41]) (panK K) env H := aw_reg _ _
def grammarfile_Valid_c31 : AC := .reg [⟨some 42, none, .fa 0 0 (.t 8)⟩, ⟨some 43, none, .ld false 1 (.t 42)⟩, ⟨some 44, none, .bin (.lss) (.t 43) (.c (.int (.i64) 1))⟩, ⟨some 45, none, .mov (.t 44)⟩, ⟨some 46, some (45, false), .fa 0 0 (.t 8)⟩, ⟨some 47, some (45, false), .ld false 1 (.t 46)⟩, ⟨some 48, some (45, false), .bin (.gtr) (.t 47) (.c (.int (.i64) 3))⟩, ⟨some 49, none, .pick (.t 45) (.c (.bool true)) (.t 48)⟩, ⟨some 50, none, .mov (.t 49)⟩, ⟨some 51, some (50, false), .fa 1 1 (.t 8)⟩, ⟨some 52, some (50, false), .ld false 1 (.t 51)⟩, ⟨some 53, some (50, false), .lenl (.t 52)⟩, ⟨some 54, some (50, false), .bin (.eql) (.t 53) (.c (.int (.i64) 0))⟩, ⟨some 55, none, .pick (.t 50) (.c (.bool true)) (.t 54)⟩] [42, 43, 44, 45, 46, 47, 48, 49, 50, 51, 52, 53, 54]
@[simp] theorem grammarfile_Valid_c31_eq {K : AK} {env : Env} {H : AHeap} : aw PP grammarfile_Valid_c31 K env H = awOps PP [⟨some 42, none, .fa 0 0 (.t 8)⟩, ⟨some 43, none, .ld false 1 (.t 42)⟩, ⟨some 44, none, .bin (.lss) (.t 43) (.c (.int (.i64) 1))⟩, ⟨some 45, none, .mov (.t 44)⟩, ⟨some 46, some (45, false), .fa 0 0 (.t 8)⟩, ⟨some 47, some (45, false), .ld false 1 (.t 46)⟩, ⟨some 48, some (45, false), .bin (.gtr) (.t 47) (.c (.int (.i64) 3))⟩, ⟨some 49, none, .pick (.t 45) (.c (.bool true)) (.t 48)⟩, ⟨some 50, none, .mov (.t 49)⟩, ⟨some 51, some (50, false), .fa 1 1 (.t 8)⟩, ⟨some 52, some (50, false), .ld false 1 (.t 51)⟩, ⟨some 53, some (50, false), .lenl (.t 52)⟩, ⟨some 54, some (50, false), .bin (.eql) (.t 53) (.c (.int (.i64) 0))⟩, ⟨some 55, none, .pick (.t 50) (.c (.bool true)) (.t 54)⟩] (regK K [42, 43, 44, 45, 46, 47, 48, 49, 50, 51, 52, 53, 54]) (panK K) env H := aw_reg _ _
def grammarfile_Valid_c32 : AC := .reg [⟨some 2, none, .mov (.c (.bool false))⟩] [1, 3, 4, 8, 36, 37, 38, 55]
@[simp] theorem grammarfile_Valid_c32_eq {K : AK} {env : Env} {H : AHeap} : aw PP grammarfile_Valid_c32 K env H = awOps PP [⟨some 2, none, .mov (.c (.bool false))⟩] (regK K [1, 3, 4, 8, 36, 37, 38, 55]) (panK K) env H := aw_reg _ _
def grammarfile_Valid_c33 : AC := .seq grammarfile_Valid_c32 .ret
@[simp] theorem grammarfile_Valid_c33_eq {K : AK} {env : Env} {H : AHeap} : aw PP grammarfile_Valid_c33 K env H = aw PP grammarfile_Valid_c32 (seqK PP .ret K) env H := aw_seq grammarfile_Valid_c32 .ret
def grammarfile_Valid_c34 : AC := .cond (.t 55) grammarfile_Valid_c33 .skip
@[simp] theorem grammarfile_Valid_c34_eq {K : AK} {env : Env} {H : AHeap} : aw PP grammarfile_Valid_c34 K env H = condQ PP (Opd.ev env (.t 55)) grammarfile_Valid_c33 .skip K env H := aw_cond _ grammarfile_Valid_c33 .skip
def grammarfile_Valid_c35 : AC := .seq grammarfile_Valid_c31 grammarfile_Valid_c34
@[simp] theorem grammarfile_Valid_c35_eq {K : AK} {env : Env} {H : AHeap} : aw PP grammarfile_Valid_c35 K env H = aw PP grammarfile_Valid_c31 (seqK PP grammarfile_Valid_c34 K) env H := aw_seq grammarfile_Valid_c31 grammarfile_Valid_c34
def grammarfile_Valid_c36 : AC := .reg [⟨some 56, none, .mov (.t 4)⟩, ⟨some 57, none, .fa 1 1 (.t 8)⟩, ⟨some 58, none, .ld false 1 (.t 57)⟩, ⟨some 59, none, .app 9 1 16 (.t 56) (.t 58)⟩, ⟨some 4, none, .mov (.t 59)⟩] [8, 55, 56, 57, 58, 59]
@[simp] theorem grammarfile_Valid_c36_eq {K : AK} {env : Env} {H : AHeap} : aw PP grammarfile_Valid_c36 K env H = awOps PP [⟨some 56, none, .mov (.t 4)⟩, ⟨some 57, none, .fa 1 1 (.t 8)⟩, ⟨some 58, none, .ld false 1 (.t 57)⟩, ⟨some 59, none, .app 9 1 16 (.t 56) (.t 58)⟩, ⟨some 4, none, .mov (.t 59)⟩] (regK K [8, 55, 56, 57, 58, 59]) (panK K) env H := aw_reg _ _
def grammarfile_Valid_c37 : AC := .seq grammarfile_Valid_c35 grammarfile_Valid_c36
@[simp] theorem grammarfile_Valid_c37_eq {K : AK} {env : Env} {H : AHeap} : aw PP grammarfile_Valid_c37 K env H = aw PP grammarfile_Valid_c35 (seqK PP grammarfile_Valid_c36 K) env H := aw_seq grammarfile_Valid_c35 grammarfile_Valid_c36
def grammarfile_Valid_c38 : AC := .seq grammarfile_Valid_c30 grammarfile_Valid_c37
@[simp] theorem grammarfile_Valid_c38_eq {K : AK} {env : Env} {H : AHeap} : aw PP grammarfile_Valid_c38 K env H = aw PP grammarfile_Valid_c30 (seqK PP grammarfile_Valid_c37 K) env H := aw_seq grammarfile_Valid_c30 grammarfile_Valid_c37
def grammarfile_Valid_c39 : AC := .block 3 grammarfile_Valid_c38
@[simp] theorem grammarfile_Valid_c39_eq {K : AK} {env : Env} {H : AHeap} : aw PP grammarfile_Valid_c39 K env H = aw PP grammarfile_Valid_c38 (blockK 3 K) env H := aw_block _ grammarfile_Valid_c38
def grammarfile_Valid_c40 : AC := .reg [⟨some 60, none, .bin (.add) (.t 38) (.c (.int (.i64) 1))⟩, ⟨some 38, none, .mov (.t 60)⟩] [60]
@[simp] theorem grammarfile_Valid_c40_eq {K : AK} {env : Env} {H : AHeap} : aw PP grammarfile_Valid_c40 K env H = awOps PP [⟨some 60, none, .bin (.add) (.t 38) (.c (.int (.i64) 1))⟩, ⟨some 38, none, .mov (.t 60)⟩] (regK K [60]) (panK K) env H := aw_reg _ _
def grammarfile_Valid_c41 : AC := .seq grammarfile_Valid_c39 grammarfile_Valid_c40
@[simp] theorem grammarfile_Valid_c41_eq {K : AK} {env : Env} {H : AHeap} : aw PP grammarfile_Valid_c41 K env H = aw PP grammarfile_Valid_c39 (seqK PP grammarfile_Valid_c40 K) env H := aw_seq grammarfile_Valid_c39 grammarfile_Valid_c40
def grammarfile_Valid_c42 : AC := .seq grammarfile_Valid_c29 grammarfile_Valid_c41
@[simp] theorem grammarfile_Valid_c42_eq {K : AK} {env : Env} {H : AHeap} : aw PP grammarfile_Valid_c42 K env H = aw PP grammarfile_Valid_c29 (seqK PP grammarfile_Valid_c41 K) env H := aw_seq grammarfile_Valid_c29 grammarfile_Valid_c41
def grammarfile_Valid_c43 : AC := .seq grammarfile_Valid_c28 grammarfile_Valid_c42
@[simp] theorem grammarfile_Valid_c43_eq {K : AK} {env : Env} {H : AHeap} : aw PP grammarfile_Valid_c43 K env H = aw PP grammarfile_Valid_c28 (seqK PP grammarfile_Valid_c42 K) env H := aw_seq grammarfile_Valid_c28 grammarfile_Valid_c42
def grammarfile_Valid_c44 : AC := .loop grammarfile_Valid_c43
def grammarfile_Valid_c45 : AC := .block 2 grammarfile_Valid_c44
@[simp] theorem grammarfile_Valid_c45_eq {K : AK} {env : Env} {H : AHeap} : aw PP grammarfile_Valid_c45 K env H = aw PP grammarfile_Valid_c44 (blockK 2 K) env H := aw_block _ grammarfile_Valid_c44
def grammarfile_Valid_c46 : AC := .seq grammarfile_Valid_c27 grammarfile_Valid_c45
@[simp] theorem grammarfile_Valid_c46_eq {K : AK} {env : Env} {H : AHeap} : aw PP grammarfile_Valid_c46 K env H = aw PP grammarfile_Valid_c27 (seqK PP grammarfile_Valid_c45 K) env H := aw_seq grammarfile_Valid_c27 grammarfile_Valid_c45
def grammarfile_Valid_c47 : AC := .reg [⟨some 61, none, .mov (.t 3)⟩, ⟨some 62, none, .call (.c (.fn (.func 60) [] [])) [.t 61]⟩, ⟨some 63, none, .mov (.t 62)⟩, ⟨some 64, some (63, true), .mov (.t 4)⟩, ⟨some 65, some (63, true), .call (.c (.fn (.func 60) [] [])) [.t 64]⟩, ⟨some 66, none, .pick (.t 63) (.t 65) (.c (.bool false))⟩, ⟨some 67, none, .mov (.t 66)⟩, ⟨some 68, some (67, true), .mov (.t 3)⟩, ⟨some 69, some (67, true), .fa 0 0 (.t 1)⟩, ⟨some 70, some (67, true), .ld false 1 (.t 69)⟩, ⟨some 71, some (67, true), .call (.c (.fn (.func 61) [] [])) [.t 68, .t 70]⟩, ⟨some 72, none, .pick (.t 67) (.t 71) (.c (.bool false))⟩, ⟨some 2, none, .mov (.t 72)⟩] [1, 3, 4, 36, 37, 38, 39, 61, 62, 63, 64, 65, 66, 67, 68, 69, 70, 71, 72]
@[simp] theorem grammarfile_Valid_c47_eq {K : AK} {env : Env} {H : AHeap} : aw PP grammarfile_Valid_c47 K env H = awOps PP [⟨some 61, none, .mov (.t 3)⟩, ⟨some 62, none, .call (.c (.fn (.func 60) [] [])) [.t 61]⟩, ⟨some 63, none, .mov (.t 62)⟩, ⟨some 64, some (63, true), .mov (.t 4)⟩, ⟨some 65, some (63, true), .call (.c (.fn (.func 60) [] [])) [.t 64]⟩, ⟨some 66, none, .pick (.t 63) (.t 65) (.c (.bool false))⟩, ⟨some 67, none, .mov (.t 66)⟩, ⟨some 68, some (67, true), .mov (.t 3)⟩, ⟨some 69, some (67, true), .fa 0 0 (.t 1)⟩, ⟨some 70, some (67, true), .ld false 1 (.t 69)⟩, ⟨some 71, some (67, true), .call (.c (.fn (.func 61) [] [])) [.t 68, .t 70]⟩, ⟨some 72, none, .pick (.t 67) (.t 71) (.c (.bool false))⟩, ⟨some 2, none, .mov (.t 72)⟩] (regK K [1, 3, 4, 36, 37, 38, 39, 61, 62, 63, 64, 65, 66, 67, 68, 69, 70, 71, 72]) (panK K) env H := aw_reg _ _
def grammarfile_Valid_c48 : AC := .seq grammarfile_Valid_c47 .ret
@[simp] theorem grammarfile_Valid_c48_eq {K : AK} {env : Env} {H : AHeap} : aw PP grammarfile_Valid_c48 K env H = aw PP grammarfile_Valid_c47 (seqK PP .ret K) env H := aw_seq grammarfile_Valid_c47 .ret
def grammarfile_Valid_c49 : AC := .seq grammarfile_Valid_c46 grammarfile_Valid_c48
@[simp] theorem grammarfile_Valid_c49_eq {K : AK} {env : Env} {H : AHeap} : aw PP grammarfile_Valid_c49 K env H = aw PP grammarfile_Valid_c46 (seqK PP grammarfile_Valid_c48 K) env H := aw_seq grammarfile_Valid_c46 grammarfile_Valid_c48
def grammarfile_Valid_c50 : AC := .seq grammarfile_Valid_c26 grammarfile_Valid_c49
@[simp] theorem grammarfile_Valid_c50_eq {K : AK} {env : Env} {H : AHeap} : aw PP grammarfile_Valid_c50 K env H = aw PP grammarfile_Valid_c26 (seqK PP grammarfile_Valid_c49 K) env H := aw_seq grammarfile_Valid_c26 grammarfile_Valid_c49
def grammarfile_Valid_c51 : AC := .seq grammarfile_Valid_c6 grammarfile_Valid_c50
@[simp] theorem grammarfile_Valid_c51_eq {K : AK} {env : Env} {H : AHeap} : aw PP grammarfile_Valid_c51 K env H = aw PP grammarfile_Valid_c6 (seqK PP grammarfile_Valid_c50 K) env H := aw_seq grammarfile_Valid_c6 grammarfile_Valid_c50
def grammarfile_Valid_c52 : AC := .seq grammarfile_Valid_c5 grammarfile_Valid_c51
@[simp] theorem grammarfile_Valid_c52_eq {K : AK} {env : Env} {H : AHeap} : aw PP grammarfile_Valid_c52 K env H = aw PP grammarfile_Valid_c5 (seqK PP grammarfile_Valid_c51 K) env H := aw_seq grammarfile_Valid_c5 grammarfile_Valid_c51
def grammarfile_Valid_c53 : AC := .seq grammarfile_Valid_c0 grammarfile_Valid_c52
@[simp] theorem grammarfile_Valid_c53_eq {K : AK} {env : Env} {H : AHeap} : aw PP grammarfile_Valid_c53 K env H = aw PP grammarfile_Valid_c0 (seqK PP grammarfile_Valid_c52 K) env H := aw_seq grammarfile_Valid_c0 grammarfile_Valid_c52
def grammarfile_Valid_ac : AC := grammarfile_Valid_c53
@[simp] theorem grammarfile_Valid_ac_eq {K : AK} {env : Env} {H : AHeap} : aw PP grammarfile_Valid_ac K env H = aw PP grammarfile_Valid_c53 K env H := Eq.trans rfl rfl
def grammarfile_Valid_rs : List ARV := [.tmp 2]
abbrev grammarfile_Valid_id : Nat := 24
theorem grammarfile_Valid_comp : compF PP grammarfile_Valid_kl grammarfile_Valid_ow 1 Try.f24 = some (grammarfile_Valid_ac, grammarfile_Valid_rs) := by kernel_rfl
theorem grammarfile_Valid_enter {args : List AV} {H : AHeap} {post : ARes → AHeap → Prop} (ha : args.length = 1) (h : aw PP grammarfile_Valid_ac (retK grammarfile_Valid_rs post) (argEnv 0 args) H) : ACalls PP grammarfile_Valid_id args H post := .enterF Try.func24 PP_mix grammarfile_Valid_comp ha h

/-! (*emendate.emendateref17.parser).advance -/
def ref17_parser_advance_kl : Nat → List Nat
  | 0 => [3, 4, 5, 6, 7, 8, 9, 10, 11, 12, 13, 14]
  | 1 => [15, 16, 17, 18, 19, 20, 21, 22, 23, 24, 25, 26, 27, 28, 29, 30, 31, 32, 33, 34, 35, 36, 37, 38, 39, 40, 41, 42, 43, 44, 45, 46, 47, 80]
  | 2 => [48, 49, 50, 51, 52, 53, 54, 55, 56, 57]
  | 3 => [58, 59, 60, 61, 62, 63, 64, 65, 66, 67, 68, 69, 70, 71, 72, 73, 74, 75, 76, 77, 78, 79]
  | 4 => [80, 81, 82, 83, 84, 85, 86, 87]
  | 5 => [58, 88, 89, 90, 91, 92, 93, 94]
  | 6 => [48, 95, 96, 97, 98]
  | 7 => [99, 100, 101, 102, 103, 104]
  | 8 => [105, 106, 107]
  | 9 => [108, 109, 110, 111, 112, 113, 114, 115, 116, 117, 118, 119, 120, 121, 122, 123, 124, 125, 126, 127, 128, 129, 130, 131, 132, 133, 134, 135, 136, 137, 138, 139, 140, 141, 142, 143, 144, 145, 146, 147, 148, 149, 150, 151, 152]
  | 10 => [153, 154, 155]
  | 11 => [153, 156, 157, 158, 159, 160, 161, 162, 163, 164, 165, 166, 167, 168, 169, 170, 171, 172, 173, 174, 175, 176, 177, 178, 179, 180, 181, 182]
  | 12 => [183, 184, 185]
  | 13 => [0, 2, 105, 183, 186, 187, 188, 189, 190, 191, 192, 193, 194]
  | _ => []
def ref17_parser_advance_ow : Nat → Nat → Bool := fun _ _ => false
def ref17_parser_advance_c0_ops : List (AI × List Nat) := [(⟨some 3, none, .mov (.t 0)⟩, []), (⟨some 4, none, .mov (.t 0)⟩, []), (⟨some 5, none, .nilc (.t 4)⟩, [1]), (⟨some 6, none, .fa 1 1 (.t 5)⟩, [2]), (⟨some 7, none, .ld false 1 (.t 6)⟩, [3]), (⟨some 8, none, .mov (.t 0)⟩, []), (⟨some 9, none, .nilc (.t 8)⟩, [5]), (⟨some 10, none, .fa 2 2 (.t 9)⟩, [6]), (⟨some 11, none, .ld false 1 (.t 10)⟩, [7]), (⟨some 12, none, .bin (.add) (.t 7) (.t 11)⟩, [4, 8]), (⟨some 13, none, .nilc (.t 3)⟩, [0, 0, 1, 2, 3, 4, 5, 6, 7, 8, 9]), (⟨some 14, none, .fa 1 1 (.t 13)⟩, [10, 0, 1, 2, 3, 4, 5, 6, 7, 8, 9]), (⟨none, none, .st 1 (.t 14) (.t 12)⟩, [11, 9, 0, 1, 2, 3, 4, 5, 6, 7, 8, 9])]
def ref17_parser_advance_c0 : AC := .dreg ref17_parser_advance_c0_ops [3, 4, 5, 6, 7, 8, 9, 10, 11, 12, 13, 14]
theorem ref17_parser_advance_c0_ok : lexOK ref17_parser_advance_c0_ops (fun i => [12].contains i) = true := by kernel_rfl
theorem ref17_parser_advance_c0_lex {K : AK} {env : Env} {H : AHeap} (h : awLex PP (fun i => [12].contains i) (regK K [3, 4, 5, 6, 7, 8, 9, 10, 11, 12, 13, 14]) (panK K) [(0, ⟨some 3, none, .mov (.t 0)⟩), (1, ⟨some 4, none, .mov (.t 0)⟩), (2, ⟨some 5, none, .nilc (.t 4)⟩), (3, ⟨some 6, none, .fa 1 1 (.t 5)⟩), (4, ⟨some 7, none, .ld false 1 (.t 6)⟩), (5, ⟨some 8, none, .mov (.t 0)⟩), (6, ⟨some 9, none, .nilc (.t 8)⟩), (7, ⟨some 10, none, .fa 2 2 (.t 9)⟩), (8, ⟨some 11, none, .ld false 1 (.t 10)⟩), (9, ⟨some 12, none, .bin (.add) (.t 7) (.t 11)⟩), (10, ⟨some 13, none, .nilc (.t 3)⟩), (11, ⟨some 14, none, .fa 1 1 (.t 13)⟩), (12, ⟨none, none, .st 1 (.t 14) (.t 12)⟩)] env H) : aw PP ref17_parser_advance_c0 K env H := aw_dreg_lex _ ref17_parser_advance_c0_ok h
def ref17_parser_advance_c1_ops : List (AI × List Nat) := [(⟨some 15, none, .mov (.t 0)⟩, []), (⟨some 16, none, .nilc (.t 15)⟩, [0]), (⟨some 17, none, .fa 1 1 (.t 16)⟩, [1]), (⟨some 18, none, .ld false 1 (.t 17)⟩, [2]), (⟨some 19, none, .mov (.t 0)⟩, []), (⟨some 20, none, .nilc (.t 19)⟩, [4]), (⟨some 21, none, .fa 0 0 (.t 20)⟩, [5]), (⟨some 22, none, .ld false 1 (.t 21)⟩, [6]), (⟨some 23, none, .lens (.t 22)⟩, [7]), (⟨some 24, none, .bin (.lss) (.t 18) (.t 23)⟩, [3, 8]), (⟨some 25, none, .mov (.t 24)⟩, [9]), (⟨some 26, some (25, true), .mov (.t 0)⟩, [10]), (⟨some 27, some (25, true), .nilc (.t 26)⟩, [11, 10]), (⟨some 28, some (25, true), .fa 0 0 (.t 27)⟩, [12, 10]), (⟨some 29, some (25, true), .ld false 1 (.t 28)⟩, [13, 10]), (⟨some 30, some (25, true), .mov (.t 0)⟩, [10]), (⟨some 31, some (25, true), .nilc (.t 30)⟩, [15, 10]), (⟨some 32, some (25, true), .fa 1 1 (.t 31)⟩, [16, 10]), (⟨some 33, some (25, true), .ld false 1 (.t 32)⟩, [17, 10]), (⟨some 34, some (25, true), .ix (.t 29) (.t 33)⟩, [14, 18, 10]), (⟨some 35, some (25, true), .call (.c (.fn (.func 62) [] [])) [.t 34]⟩, [19, 10, 10]), (⟨some 36, some (25, true), .mov (.t 35)⟩, [20, 20, 10]), (⟨some 37, some (36, false), .mov (.t 0)⟩, [21]), (⟨some 38, some (36, false), .nilc (.t 37)⟩, [22, 21]), (⟨some 39, some (36, false), .fa 0 0 (.t 38)⟩, [23, 21]), (⟨some 40, some (36, false), .ld false 1 (.t 39)⟩, [24, 21]), (⟨some 41, some (36, false), .mov (.t 0)⟩, [21]), (⟨some 42, some (36, false), .nilc (.t 41)⟩, [26, 21]), (⟨some 43, some (36, false), .fa 1 1 (.t 42)⟩, [27, 21]), (⟨some 44, some (36, false), .ld false 1 (.t 43)⟩, [28, 21]), (⟨some 45, some (36, false), .ix (.t 40) (.t 44)⟩, [25, 29, 21]), (⟨some 46, some (36, false), .bin (.eql) (.t 45) (.c (.int (.u8) 35))⟩, [30, 21]), (⟨some 47, some (25, true), .pick (.t 36) (.c (.bool true)) (.t 46)⟩, [21, 31, 10]), (⟨some 48, none, .pick (.t 25) (.t 47) (.c (.bool false))⟩, [10, 32])]
def ref17_parser_advance_c1 : AC := .dreg ref17_parser_advance_c1_ops [15, 16, 17, 18, 19, 20, 21, 22, 23, 24, 25, 26, 27, 28, 29, 30, 31, 32, 33, 34, 35, 36, 37, 38, 39, 40, 41, 42, 43, 44, 45, 46, 47, 80]
theorem ref17_parser_advance_c1_ok : lexOK ref17_parser_advance_c1_ops (fun i => [].contains i) = true := by kernel_rfl
theorem ref17_parser_advance_c1_lex {K : AK} {env : Env} {H : AHeap} (h : awLex PP (fun i => [].contains i) (regK K [15, 16, 17, 18, 19, 20, 21, 22, 23, 24, 25, 26, 27, 28, 29, 30, 31, 32, 33, 34, 35, 36, 37, 38, 39, 40, 41, 42, 43, 44, 45, 46, 47, 80]) (panK K) [(0, ⟨some 15, none, .mov (.t 0)⟩), (1, ⟨some 16, none, .nilc (.t 15)⟩), (2, ⟨some 17, none, .fa 1 1 (.t 16)⟩), (3, ⟨some 18, none, .ld false 1 (.t 17)⟩), (4, ⟨some 19, none, .mov (.t 0)⟩), (5, ⟨some 20, none, .nilc (.t 19)⟩), (6, ⟨some 21, none, .fa 0 0 (.t 20)⟩), (7, ⟨some 22, none, .ld false 1 (.t 21)⟩), (8, ⟨some 23, none, .lens (.t 22)⟩), (9, ⟨some 24, none, .bin (.lss) (.t 18) (.t 23)⟩), (10, ⟨some 25, none, .mov (.t 24)⟩), (11, ⟨some 26, some (25, true), .mov (.t 0)⟩), (12, ⟨some 27, some (25, true), .nilc (.t 26)⟩), (13, ⟨some 28, some (25, true), .fa 0 0 (.t 27)⟩), (14, ⟨some 29, some (25, true), .ld false 1 (.t 28)⟩), (15, ⟨some 30, some (25, true), .mov (.t 0)⟩), (16, ⟨some 31, some (25, true), .nilc (.t 30)⟩), (17, ⟨some 32, some (25, true), .fa 1 1 (.t 31)⟩), (18, ⟨some 33, some (25, true), .ld false 1 (.t 32)⟩), (19, ⟨some 34, some (25, true), .ix (.t 29) (.t 33)⟩), (20, ⟨some 35, some (25, true), .call (.c (.fn (.func 62) [] [])) [.t 34]⟩), (21, ⟨some 36, some (25, true), .mov (.t 35)⟩), (22, ⟨some 37, some (36, false), .mov (.t 0)⟩), (23, ⟨some 38, some (36, false), .nilc (.t 37)⟩), (24, ⟨some 39, some (36, false), .fa 0 0 (.t 38)⟩), (25, ⟨some 40, some (36, false), .ld false 1 (.t 39)⟩), (26, ⟨some 41, some (36, false), .mov (.t 0)⟩), (27, ⟨some 42, some (36, false), .nilc (.t 41)⟩), (28, ⟨some 43, some (36, false), .fa 1 1 (.t 42)⟩), (29, ⟨some 44, some (36, false), .ld false 1 (.t 43)⟩), (30, ⟨some 45, some (36, false), .ix (.t 40) (.t 44)⟩), (31, ⟨some 46, some (36, false), .bin (.eql) (.t 45) (.c (.int (.u8) 35))⟩), (32, ⟨some 47, some (25, true), .pick (.t 36) (.c (.bool true)) (.t 46)⟩), (33, ⟨some 48, none, .pick (.t 25) (.t 47) (.c (.bool false))⟩)] env H) : aw PP ref17_parser_advance_c1 K env H := aw_dreg_lex _ ref17_parser_advance_c1_ok h
theorem ref17_parser_advance_c1_okF : lexOKF ref17_parser_advance_c1_ops 30 (fun i => [20].contains i) = true := by kernel_rfl
theorem ref17_parser_advance_c1_lexF {K : AK} {env : Env} {H : AHeap} (B : List Nat) (h : awLexF PP 30 (fun i => [20].contains i) B H (regK K [15, 16, 17, 18, 19, 20, 21, 22, 23, 24, 25, 26, 27, 28, 29, 30, 31, 32, 33, 34, 35, 36, 37, 38, 39, 40, 41, 42, 43, 44, 45, 46, 47, 80]) (panK K) [(0, ⟨some 15, none, .mov (.t 0)⟩), (1, ⟨some 16, none, .nilc (.t 15)⟩), (2, ⟨some 17, none, .fa 1 1 (.t 16)⟩), (3, ⟨some 18, none, .ld false 1 (.t 17)⟩), (4, ⟨some 19, none, .mov (.t 0)⟩), (5, ⟨some 20, none, .nilc (.t 19)⟩), (6, ⟨some 21, none, .fa 0 0 (.t 20)⟩), (7, ⟨some 22, none, .ld false 1 (.t 21)⟩), (8, ⟨some 23, none, .lens (.t 22)⟩), (9, ⟨some 24, none, .bin (.lss) (.t 18) (.t 23)⟩), (10, ⟨some 25, none, .mov (.t 24)⟩), (11, ⟨some 26, some (25, true), .mov (.t 0)⟩), (12, ⟨some 27, some (25, true), .nilc (.t 26)⟩), (13, ⟨some 28, some (25, true), .fa 0 0 (.t 27)⟩), (14, ⟨some 29, some (25, true), .ld false 1 (.t 28)⟩), (15, ⟨some 30, some (25, true), .mov (.t 0)⟩), (16, ⟨some 31, some (25, true), .nilc (.t 30)⟩), (17, ⟨some 32, some (25, true), .fa 1 1 (.t 31)⟩), (18, ⟨some 33, some (25, true), .ld false 1 (.t 32)⟩), (19, ⟨some 34, some (25, true), .ix (.t 29) (.t 33)⟩), (20, ⟨some 35, some (25, true), .call (.c (.fn (.func 62) [] [])) [.t 34]⟩), (21, ⟨some 36, some (25, true), .mov (.t 35)⟩), (22, ⟨some 37, some (36, false), .mov (.t 0)⟩), (23, ⟨some 38, some (36, false), .nilc (.t 37)⟩), (24, ⟨some 39, some (36, false), .fa 0 0 (.t 38)⟩), (25, ⟨some 40, some (36, false), .ld false 1 (.t 39)⟩), (26, ⟨some 41, some (36, false), .mov (.t 0)⟩), (27, ⟨some 42, some (36, false), .nilc (.t 41)⟩), (28, ⟨some 43, some (36, false), .fa 1 1 (.t 42)⟩), (29, ⟨some 44, some (36, false), .ld false 1 (.t 43)⟩), (30, ⟨some 45, some (36, false), .ix (.t 40) (.t 44)⟩), (31, ⟨some 46, some (36, false), .bin (.eql) (.t 45) (.c (.int (.u8) 35))⟩), (32, ⟨some 47, some (25, true), .pick (.t 36) (.c (.bool true)) (.t 46)⟩), (33, ⟨some 48, none, .pick (.t 25) (.t 47) (.c (.bool false))⟩)] env H) : aw PP ref17_parser_advance_c1 K env H := aw_dreg_lexF _ _ B ref17_parser_advance_c1_okF h
def ref17_parser_advance_c2 : AC := .cond (.t 48) .skip (.exit 0)
@[simp] theorem ref17_parser_advance_c2_eq {K : AK} {env : Env} {H : AHeap} : aw PP ref17_parser_advance_c2 K env H = condQ PP (Opd.ev env (.t 48)) .skip (.exit 0) K env H := aw_cond _ .skip (.exit 0)
def ref17_parser_advance_c3 : AC := .seq ref17_parser_advance_c1 ref17_parser_advance_c2
@[simp] theorem ref17_parser_advance_c3_eq {K : AK} {env : Env} {H : AHeap} : aw PP ref17_parser_advance_c3 K env H = aw PP ref17_parser_advance_c1 (seqK PP ref17_parser_advance_c2 K) env H := aw_seq ref17_parser_advance_c1 ref17_parser_advance_c2
def ref17_parser_advance_c4_ops : List (AI × List Nat) := [(⟨some 49, none, .mov (.t 0)⟩, []), (⟨some 50, none, .nilc (.t 49)⟩, [0]), (⟨some 51, none, .fa 0 0 (.t 50)⟩, [1]), (⟨some 52, none, .ld false 1 (.t 51)⟩, [2]), (⟨some 53, none, .mov (.t 0)⟩, []), (⟨some 54, none, .nilc (.t 53)⟩, [4]), (⟨some 55, none, .fa 1 1 (.t 54)⟩, [5]), (⟨some 56, none, .ld false 1 (.t 55)⟩, [6]), (⟨some 57, none, .ix (.t 52) (.t 56)⟩, [3, 7]), (⟨some 58, none, .bin (.eql) (.t 57) (.c (.int (.u8) 35))⟩, [8])]
def ref17_parser_advance_c4 : AC := .dreg ref17_parser_advance_c4_ops [48, 49, 50, 51, 52, 53, 54, 55, 56, 57]
theorem ref17_parser_advance_c4_ok : lexOK ref17_parser_advance_c4_ops (fun i => [].contains i) = true := by kernel_rfl
theorem ref17_parser_advance_c4_lex {K : AK} {env : Env} {H : AHeap} (h : awLex PP (fun i => [].contains i) (regK K [48, 49, 50, 51, 52, 53, 54, 55, 56, 57]) (panK K) [(0, ⟨some 49, none, .mov (.t 0)⟩), (1, ⟨some 50, none, .nilc (.t 49)⟩), (2, ⟨some 51, none, .fa 0 0 (.t 50)⟩), (3, ⟨some 52, none, .ld false 1 (.t 51)⟩), (4, ⟨some 53, none, .mov (.t 0)⟩), (5, ⟨some 54, none, .nilc (.t 53)⟩), (6, ⟨some 55, none, .fa 1 1 (.t 54)⟩), (7, ⟨some 56, none, .ld false 1 (.t 55)⟩), (8, ⟨some 57, none, .ix (.t 52) (.t 56)⟩), (9, ⟨some 58, none, .bin (.eql) (.t 57) (.c (.int (.u8) 35))⟩)] env H) : aw PP ref17_parser_advance_c4 K env H := aw_dreg_lex _ ref17_parser_advance_c4_ok h
def ref17_parser_advance_c5_ops : List (AI × List Nat) := [(⟨some 59, none, .mov (.t 0)⟩, []), (⟨some 60, none, .nilc (.t 59)⟩, [0]), (⟨some 61, none, .fa 1 1 (.t 60)⟩, [1]), (⟨some 62, none, .ld false 1 (.t 61)⟩, [2]), (⟨some 63, none, .mov (.t 0)⟩, []), (⟨some 64, none, .nilc (.t 63)⟩, [4]), (⟨some 65, none, .fa 0 0 (.t 64)⟩, [5]), (⟨some 66, none, .ld false 1 (.t 65)⟩, [6]), (⟨some 67, none, .lens (.t 66)⟩, [7]), (⟨some 68, none, .bin (.lss) (.t 62) (.t 67)⟩, [3, 8]), (⟨some 69, none, .mov (.t 68)⟩, [9]), (⟨some 70, some (69, true), .mov (.t 0)⟩, [10]), (⟨some 71, some (69, true), .nilc (.t 70)⟩, [11, 10]), (⟨some 72, some (69, true), .fa 0 0 (.t 71)⟩, [12, 10]), (⟨some 73, some (69, true), .ld false 1 (.t 72)⟩, [13, 10]), (⟨some 74, some (69, true), .mov (.t 0)⟩, [10]), (⟨some 75, some (69, true), .nilc (.t 74)⟩, [15, 10]), (⟨some 76, some (69, true), .fa 1 1 (.t 75)⟩, [16, 10]), (⟨some 77, some (69, true), .ld false 1 (.t 76)⟩, [17, 10]), (⟨some 78, some (69, true), .ix (.t 73) (.t 77)⟩, [14, 18, 10]), (⟨some 79, some (69, true), .bin (.neq) (.t 78) (.c (.int (.u8) 10))⟩, [19, 10]), (⟨some 80, none, .pick (.t 69) (.t 79) (.c (.bool false))⟩, [10, 20])]
def ref17_parser_advance_c5 : AC := .dreg ref17_parser_advance_c5_ops [58, 59, 60, 61, 62, 63, 64, 65, 66, 67, 68, 69, 70, 71, 72, 73, 74, 75, 76, 77, 78, 79]
theorem ref17_parser_advance_c5_ok : lexOK ref17_parser_advance_c5_ops (fun i => [].contains i) = true := by kernel_rfl
theorem ref17_parser_advance_c5_lex {K : AK} {env : Env} {H : AHeap} (h : awLex PP (fun i => [].contains i) (regK K [58, 59, 60, 61, 62, 63, 64, 65, 66, 67, 68, 69, 70, 71, 72, 73, 74, 75, 76, 77, 78, 79]) (panK K) [(0, ⟨some 59, none, .mov (.t 0)⟩), (1, ⟨some 60, none, .nilc (.t 59)⟩), (2, ⟨some 61, none, .fa 1 1 (.t 60)⟩), (3, ⟨some 62, none, .ld false 1 (.t 61)⟩), (4, ⟨some 63, none, .mov (.t 0)⟩), (5, ⟨some 64, none, .nilc (.t 63)⟩), (6, ⟨some 65, none, .fa 0 0 (.t 64)⟩), (7, ⟨some 66, none, .ld false 1 (.t 65)⟩), (8, ⟨some 67, none, .lens (.t 66)⟩), (9, ⟨some 68, none, .bin (.lss) (.t 62) (.t 67)⟩), (10, ⟨some 69, none, .mov (.t 68)⟩), (11, ⟨some 70, some (69, true), .mov (.t 0)⟩), (12, ⟨some 71, some (69, true), .nilc (.t 70)⟩), (13, ⟨some 72, some (69, true), .fa 0 0 (.t 71)⟩), (14, ⟨some 73, some (69, true), .ld false 1 (.t 72)⟩), (15, ⟨some 74, some (69, true), .mov (.t 0)⟩), (16, ⟨some 75, some (69, true), .nilc (.t 74)⟩), (17, ⟨some 76, some (69, true), .fa 1 1 (.t 75)⟩), (18, ⟨some 77, some (69, true), .ld false 1 (.t 76)⟩), (19, ⟨some 78, some (69, true), .ix (.t 73) (.t 77)⟩), (20, ⟨some 79, some (69, true), .bin (.neq) (.t 78) (.c (.int (.u8) 10))⟩), (21, ⟨some 80, none, .pick (.t 69) (.t 79) (.c (.bool false))⟩)] env H) : aw PP ref17_parser_advance_c5 K env H := aw_dreg_lex _ ref17_parser_advance_c5_ok h
def ref17_parser_advance_c6 : AC := .cond (.t 80) .skip (.exit 2)
@[simp] theorem ref17_parser_advance_c6_eq {K : AK} {env : Env} {H : AHeap} : aw PP ref17_parser_advance_c6 K env H = condQ PP (Opd.ev env (.t 80)) .skip (.exit 2) K env H := aw_cond _ .skip (.exit 2)
def ref17_parser_advance_c7 : AC := .seq ref17_parser_advance_c5 ref17_parser_advance_c6
@[simp] theorem ref17_parser_advance_c7_eq {K : AK} {env : Env} {H : AHeap} : aw PP ref17_parser_advance_c7 K env H = aw PP ref17_parser_advance_c5 (seqK PP ref17_parser_advance_c6 K) env H := aw_seq ref17_parser_advance_c5 ref17_parser_advance_c6
def ref17_parser_advance_c8 : AC := .reg [⟨some 81, none, .mov (.t 0)⟩, ⟨some 82, none, .nilc (.t 81)⟩, ⟨some 83, none, .fa 1 1 (.t 82)⟩, ⟨some 84, none, .ld false 1 (.t 83)⟩, ⟨some 85, none, .bin (.add) (.t 84) (.c (.int (.i64) 1))⟩, ⟨some 86, none, .nilc (.t 81)⟩, ⟨some 87, none, .fa 1 1 (.t 86)⟩, ⟨none, none, .st 1 (.t 87) (.t 85)⟩] [80, 81, 82, 83, 84, 85, 86, 87]
@[simp] theorem ref17_parser_advance_c8_eq {K : AK} {env : Env} {H : AHeap} : aw PP ref17_parser_advance_c8 K env H = awOps PP [⟨some 81, none, .mov (.t 0)⟩, ⟨some 82, none, .nilc (.t 81)⟩, ⟨some 83, none, .fa 1 1 (.t 82)⟩, ⟨some 84, none, .ld false 1 (.t 83)⟩, ⟨some 85, none, .bin (.add) (.t 84) (.c (.int (.i64) 1))⟩, ⟨some 86, none, .nilc (.t 81)⟩, ⟨some 87, none, .fa 1 1 (.t 86)⟩, ⟨none, none, .st 1 (.t 87) (.t 85)⟩] (regK K [80, 81, 82, 83, 84, 85, 86, 87]) (panK K) env H := aw_reg _ _
def ref17_parser_advance_c9 : AC := .block 3 ref17_parser_advance_c8
@[simp] theorem ref17_parser_advance_c9_eq {K : AK} {env : Env} {H : AHeap} : aw PP ref17_parser_advance_c9 K env H = aw PP ref17_parser_advance_c8 (blockK 3 K) env H := aw_block _ ref17_parser_advance_c8
def ref17_parser_advance_c10 : AC := .seq ref17_parser_advance_c7 ref17_parser_advance_c9
@[simp] theorem ref17_parser_advance_c10_eq {K : AK} {env : Env} {H : AHeap} : aw PP ref17_parser_advance_c10 K env H = aw PP ref17_parser_advance_c7 (seqK PP ref17_parser_advance_c9 K) env H := aw_seq ref17_parser_advance_c7 ref17_parser_advance_c9
def ref17_parser_advance_c11 : AC := .loop ref17_parser_advance_c10
def ref17_parser_advance_c12 : AC := .block 2 ref17_parser_advance_c11
@[simp] theorem ref17_parser_advance_c12_eq {K : AK} {env : Env} {H : AHeap} : aw PP ref17_parser_advance_c12 K env H = aw PP ref17_parser_advance_c11 (blockK 2 K) env H := aw_block _ ref17_parser_advance_c11
def ref17_parser_advance_c13 : AC := .seq ref17_parser_advance_c12 (.exit 1)
@[simp] theorem ref17_parser_advance_c13_eq {K : AK} {env : Env} {H : AHeap} : aw PP ref17_parser_advance_c13 K env H = aw PP ref17_parser_advance_c12 (seqK PP (.exit 1) K) env H := aw_seq ref17_parser_advance_c12 (.exit 1)
def ref17_parser_advance_c14 : AC := .cond (.t 58) ref17_parser_advance_c13 .skip
@[simp] theorem ref17_parser_advance_c14_eq {K : AK} {env : Env} {H : AHeap} : aw PP ref17_parser_advance_c14 K env H = condQ PP (Opd.ev env (.t 58)) ref17_parser_advance_c13 .skip K env H := aw_cond _ ref17_parser_advance_c13 .skip
def ref17_parser_advance_c15 : AC := .seq ref17_parser_advance_c4 ref17_parser_advance_c14
@[simp] theorem ref17_parser_advance_c15_eq {K : AK} {env : Env} {H : AHeap} : aw PP ref17_parser_advance_c15 K env H = aw PP ref17_parser_advance_c4 (seqK PP ref17_parser_advance_c14 K) env H := aw_seq ref17_parser_advance_c4 ref17_parser_advance_c14
def ref17_parser_advance_c16 : AC := .reg [⟨some 88, none, .mov (.t 0)⟩, ⟨some 89, none, .nilc (.t 88)⟩, ⟨some 90, none, .fa 1 1 (.t 89)⟩, ⟨some 91, none, .ld false 1 (.t 90)⟩, ⟨some 92, none, .bin (.add) (.t 91) (.c (.int (.i64) 1))⟩, ⟨some 93, none, .nilc (.t 88)⟩, ⟨some 94, none, .fa 1 1 (.t 93)⟩, ⟨none, none, .st 1 (.t 94) (.t 92)⟩] [58, 88, 89, 90, 91, 92, 93, 94]
@[simp] theorem ref17_parser_advance_c16_eq {K : AK} {env : Env} {H : AHeap} : aw PP ref17_parser_advance_c16 K env H = awOps PP [⟨some 88, none, .mov (.t 0)⟩, ⟨some 89, none, .nilc (.t 88)⟩, ⟨some 90, none, .fa 1 1 (.t 89)⟩, ⟨some 91, none, .ld false 1 (.t 90)⟩, ⟨some 92, none, .bin (.add) (.t 91) (.c (.int (.i64) 1))⟩, ⟨some 93, none, .nilc (.t 88)⟩, ⟨some 94, none, .fa 1 1 (.t 93)⟩, ⟨none, none, .st 1 (.t 94) (.t 92)⟩] (regK K [58, 88, 89, 90, 91, 92, 93, 94]) (panK K) env H := aw_reg _ _
def ref17_parser_advance_c17 : AC := .seq ref17_parser_advance_c15 ref17_parser_advance_c16
@[simp] theorem ref17_parser_advance_c17_eq {K : AK} {env : Env} {H : AHeap} : aw PP ref17_parser_advance_c17 K env H = aw PP ref17_parser_advance_c15 (seqK PP ref17_parser_advance_c16 K) env H := aw_seq ref17_parser_advance_c15 ref17_parser_advance_c16
def ref17_parser_advance_c18 : AC := .block 1 ref17_parser_advance_c17
@[simp] theorem ref17_parser_advance_c18_eq {K : AK} {env : Env} {H : AHeap} : aw PP ref17_parser_advance_c18 K env H = aw PP ref17_parser_advance_c17 (blockK 1 K) env H := aw_block _ ref17_parser_advance_c17
def ref17_parser_advance_c19 : AC := .seq ref17_parser_advance_c3 ref17_parser_advance_c18
@[simp] theorem ref17_parser_advance_c19_eq {K : AK} {env : Env} {H : AHeap} : aw PP ref17_parser_advance_c19 K env H = aw PP ref17_parser_advance_c3 (seqK PP ref17_parser_advance_c18 K) env H := aw_seq ref17_parser_advance_c3 ref17_parser_advance_c18
def ref17_parser_advance_c20 : AC := .loop ref17_parser_advance_c19
def ref17_parser_advance_c21 : AC := .block 0 ref17_parser_advance_c20
@[simp] theorem ref17_parser_advance_c21_eq {K : AK} {env : Env} {H : AHeap} : aw PP ref17_parser_advance_c21 K env H = aw PP ref17_parser_advance_c20 (blockK 0 K) env H := aw_block _ ref17_parser_advance_c20
def ref17_parser_advance_c22 : AC := .reg [⟨some 95, none, .mov (.t 0)⟩, ⟨some 96, none, .nilc (.t 95)⟩, ⟨some 97, none, .fa 1 1 (.t 96)⟩, ⟨some 98, none, .ld false 1 (.t 97)⟩, ⟨some 2, none, .mov (.t 98)⟩] [48, 95, 96, 97, 98]
@[simp] theorem ref17_parser_advance_c22_eq {K : AK} {env : Env} {H : AHeap} : aw PP ref17_parser_advance_c22 K env H = awOps PP [⟨some 95, none, .mov (.t 0)⟩, ⟨some 96, none, .nilc (.t 95)⟩, ⟨some 97, none, .fa 1 1 (.t 96)⟩, ⟨some 98, none, .ld false 1 (.t 97)⟩, ⟨some 2, none, .mov (.t 98)⟩] (regK K [48, 95, 96, 97, 98]) (panK K) env H := aw_reg _ _
def ref17_parser_advance_c23 : AC := .reg [⟨some 99, none, .mov (.t 2)⟩, ⟨some 100, none, .mov (.t 0)⟩, ⟨some 101, none, .nilc (.t 100)⟩, ⟨some 102, none, .fa 0 0 (.t 101)⟩, ⟨some 103, none, .ld false 1 (.t 102)⟩, ⟨some 104, none, .lens (.t 103)⟩, ⟨some 105, none, .bin (.lss) (.t 99) (.t 104)⟩] [99, 100, 101, 102, 103, 104]
@[simp] theorem ref17_parser_advance_c23_eq {K : AK} {env : Env} {H : AHeap} : aw PP ref17_parser_advance_c23 K env H = awOps PP [⟨some 99, none, .mov (.t 2)⟩, ⟨some 100, none, .mov (.t 0)⟩, ⟨some 101, none, .nilc (.t 100)⟩, ⟨some 102, none, .fa 0 0 (.t 101)⟩, ⟨some 103, none, .ld false 1 (.t 102)⟩, ⟨some 104, none, .lens (.t 103)⟩, ⟨some 105, none, .bin (.lss) (.t 99) (.t 104)⟩] (regK K [99, 100, 101, 102, 103, 104]) (panK K) env H := aw_reg _ _
def ref17_parser_advance_c24 : AC := .reg [⟨some 106, none, .mov (.t 2)⟩, ⟨some 107, none, .bin (.add) (.t 106) (.c (.int (.i64) 1))⟩, ⟨some 2, none, .mov (.t 107)⟩] [105, 106, 107]
@[simp] theorem ref17_parser_advance_c24_eq {K : AK} {env : Env} {H : AHeap} : aw PP ref17_parser_advance_c24 K env H = awOps PP [⟨some 106, none, .mov (.t 2)⟩, ⟨some 107, none, .bin (.add) (.t 106) (.c (.int (.i64) 1))⟩, ⟨some 2, none, .mov (.t 107)⟩] (regK K [105, 106, 107]) (panK K) env H := aw_reg _ _
def ref17_parser_advance_c25_ops : List (AI × List Nat) := [(⟨some 108, none, .mov (.t 0)⟩, []), (⟨some 109, none, .nilc (.t 108)⟩, [0]), (⟨some 110, none, .fa 0 0 (.t 109)⟩, [1]), (⟨some 111, none, .ld false 1 (.t 110)⟩, [2]), (⟨some 112, none, .mov (.t 0)⟩, []), (⟨some 113, none, .nilc (.t 112)⟩, [4]), (⟨some 114, none, .fa 1 1 (.t 113)⟩, [5]), (⟨some 115, none, .ld false 1 (.t 114)⟩, [6]), (⟨some 116, none, .ix (.t 111) (.t 115)⟩, [3, 7]), (⟨some 117, none, .call (.c (.fn (.func 63) [] [])) [.t 116]⟩, [8]), (⟨some 118, none, .mov (.t 117)⟩, [9, 9]), (⟨some 119, some (118, true), .mov (.t 2)⟩, [10]), (⟨some 120, some (118, true), .mov (.t 0)⟩, [10]), (⟨some 121, some (118, true), .nilc (.t 120)⟩, [12, 10]), (⟨some 122, some (118, true), .fa 0 0 (.t 121)⟩, [13, 10]), (⟨some 123, some (118, true), .ld false 1 (.t 122)⟩, [14, 10]), (⟨some 124, some (118, true), .lens (.t 123)⟩, [15, 10]), (⟨some 125, some (118, true), .bin (.lss) (.t 119) (.t 124)⟩, [11, 16, 10]), (⟨some 126, none, .pick (.t 118) (.t 125) (.c (.bool false))⟩, [10, 17]), (⟨some 127, none, .mov (.t 126)⟩, [18, 10]), (⟨some 128, some (127, true), .mov (.t 0)⟩, [19]), (⟨some 129, some (127, true), .nilc (.t 128)⟩, [20, 19]), (⟨some 130, some (127, true), .fa 0 0 (.t 129)⟩, [21, 19]), (⟨some 131, some (127, true), .ld false 1 (.t 130)⟩, [22, 19]), (⟨some 132, some (127, true), .mov (.t 2)⟩, [19]), (⟨some 133, some (127, true), .ix (.t 131) (.t 132)⟩, [23, 24, 19]), (⟨some 134, some (127, true), .call (.c (.fn (.func 63) [] [])) [.t 133]⟩, [25, 19, 19]), (⟨some 135, some (127, true), .mov (.t 134)⟩, [26, 26, 19]), (⟨some 136, some (135, false), .mov (.t 0)⟩, [27]), (⟨some 137, some (135, false), .nilc (.t 136)⟩, [28, 27]), (⟨some 138, some (135, false), .fa 0 0 (.t 137)⟩, [29, 27]), (⟨some 139, some (135, false), .ld false 1 (.t 138)⟩, [30, 27]), (⟨some 140, some (135, false), .mov (.t 2)⟩, [27]), (⟨some 141, some (135, false), .ix (.t 139) (.t 140)⟩, [31, 32, 27]), (⟨some 142, some (135, false), .call (.c (.fn (.func 64) [] [])) [.t 141]⟩, [33, 27, 27]), (⟨some 143, some (127, true), .pick (.t 135) (.c (.bool true)) (.t 142)⟩, [27, 34, 19]), (⟨some 144, some (127, true), .mov (.t 143)⟩, [35, 34, 19]), (⟨some 145, some (144, false), .mov (.t 0)⟩, [36]), (⟨some 146, some (144, false), .nilc (.t 145)⟩, [37, 36]), (⟨some 147, some (144, false), .fa 0 0 (.t 146)⟩, [38, 36]), (⟨some 148, some (144, false), .ld false 1 (.t 147)⟩, [39, 36]), (⟨some 149, some (144, false), .mov (.t 2)⟩, [36]), (⟨some 150, some (144, false), .ix (.t 148) (.t 149)⟩, [40, 41, 36]), (⟨some 151, some (144, false), .bin (.eql) (.t 150) (.c (.int (.u8) 95))⟩, [42, 36]), (⟨some 152, some (127, true), .pick (.t 144) (.c (.bool true)) (.t 151)⟩, [36, 43, 19]), (⟨some 153, none, .pick (.t 127) (.t 152) (.c (.bool false))⟩, [19, 44])]
def ref17_parser_advance_c25 : AC := .dreg ref17_parser_advance_c25_ops [108, 109, 110, 111, 112, 113, 114, 115, 116, 117, 118, 119, 120, 121, 122, 123, 124, 125, 126, 127, 128, 129, 130, 131, 132, 133, 134, 135, 136, 137, 138, 139, 140, 141, 142, 143, 144, 145, 146, 147, 148, 149, 150, 151, 152]
theorem ref17_parser_advance_c25_ok : lexOK ref17_parser_advance_c25_ops (fun i => [].contains i) = true := by kernel_rfl
theorem ref17_parser_advance_c25_lex {K : AK} {env : Env} {H : AHeap} (h : awLex PP (fun i => [].contains i) (regK K [108, 109, 110, 111, 112, 113, 114, 115, 116, 117, 118, 119, 120, 121, 122, 123, 124, 125, 126, 127, 128, 129, 130, 131, 132, 133, 134, 135, 136, 137, 138, 139, 140, 141, 142, 143, 144, 145, 146, 147, 148, 149, 150, 151, 152]) (panK K) [(0, ⟨some 108, none, .mov (.t 0)⟩), (1, ⟨some 109, none, .nilc (.t 108)⟩), (2, ⟨some 110, none, .fa 0 0 (.t 109)⟩), (3, ⟨some 111, none, .ld false 1 (.t 110)⟩), (4, ⟨some 112, none, .mov (.t 0)⟩), (5, ⟨some 113, none, .nilc (.t 112)⟩), (6, ⟨some 114, none, .fa 1 1 (.t 113)⟩), (7, ⟨some 115, none, .ld false 1 (.t 114)⟩), (8, ⟨some 116, none, .ix (.t 111) (.t 115)⟩), (9, ⟨some 117, none, .call (.c (.fn (.func 63) [] [])) [.t 116]⟩), (10, ⟨some 118, none, .mov (.t 117)⟩), (11, ⟨some 119, some (118, true), .mov (.t 2)⟩), (12, ⟨some 120, some (118, true), .mov (.t 0)⟩), (13, ⟨some 121, some (118, true), .nilc (.t 120)⟩), (14, ⟨some 122, some (118, true), .fa 0 0 (.t 121)⟩), (15, ⟨some 123, some (118, true), .ld false 1 (.t 122)⟩), (16, ⟨some 124, some (118, true), .lens (.t 123)⟩), (17, ⟨some 125, some (118, true), .bin (.lss) (.t 119) (.t 124)⟩), (18, ⟨some 126, none, .pick (.t 118) (.t 125) (.c (.bool false))⟩), (19, ⟨some 127, none, .mov (.t 126)⟩), (20, ⟨some 128, some (127, true), .mov (.t 0)⟩), (21, ⟨some 129, some (127, true), .nilc (.t 128)⟩), (22, ⟨some 130, some (127, true), .fa 0 0 (.t 129)⟩), (23, ⟨some 131, some (127, true), .ld false 1 (.t 130)⟩), (24, ⟨some 132, some (127, true), .mov (.t 2)⟩), (25, ⟨some 133, some (127, true), .ix (.t 131) (.t 132)⟩), (26, ⟨some 134, some (127, true), .call (.c (.fn (.func 63) [] [])) [.t 133]⟩), (27, ⟨some 135, some (127, true), .mov (.t 134)⟩), (28, ⟨some 136, some (135, false), .mov (.t 0)⟩), (29, ⟨some 137, some (135, false), .nilc (.t 136)⟩), (30, ⟨some 138, some (135, false), .fa 0 0 (.t 137)⟩), (31, ⟨some 139, some (135, false), .ld false 1 (.t 138)⟩), (32, ⟨some 140, some (135, false), .mov (.t 2)⟩), (33, ⟨some 141, some (135, false), .ix (.t 139) (.t 140)⟩), (34, ⟨some 142, some (135, false), .call (.c (.fn (.func 64) [] [])) [.t 141]⟩), (35, ⟨some 143, some (127, true), .pick (.t 135) (.c (.bool true)) (.t 142)⟩), (36, ⟨some 144, some (127, true), .mov (.t 143)⟩), (37, ⟨some 145, some (144, false), .mov (.t 0)⟩), (38, ⟨some 146, some (144, false), .nilc (.t 145)⟩), (39, ⟨some 147, some (144, false), .fa 0 0 (.t 146)⟩), (40, ⟨some 148, some (144, false), .ld false 1 (.t 147)⟩), (41, ⟨some 149, some (144, false), .mov (.t 2)⟩), (42, ⟨some 150, some (144, false), .ix (.t 148) (.t 149)⟩), (43, ⟨some 151, some (144, false), .bin (.eql) (.t 150) (.c (.int (.u8) 95))⟩), (44, ⟨some 152, some (127, true), .pick (.t 144) (.c (.bool true)) (.t 151)⟩), (45, ⟨some 153, none, .pick (.t 127) (.t 152) (.c (.bool false))⟩)] env H) : aw PP ref17_parser_advance_c25 K env H := aw_dreg_lex _ ref17_parser_advance_c25_ok h
theorem ref17_parser_advance_c25_okF : lexOKF ref17_parser_advance_c25_ops 42 (fun i => [9, 26, 34].contains i) = true := by kernel_rfl
theorem ref17_parser_advance_c25_lexF {K : AK} {env : Env} {H : AHeap} (B : List Nat) (h : awLexF PP 42 (fun i => [9, 26, 34].contains i) B H (regK K [108, 109, 110, 111, 112, 113, 114, 115, 116, 117, 118, 119, 120, 121, 122, 123, 124, 125, 126, 127, 128, 129, 130, 131, 132, 133, 134, 135, 136, 137, 138, 139, 140, 141, 142, 143, 144, 145, 146, 147, 148, 149, 150, 151, 152]) (panK K) [(0, ⟨some 108, none, .mov (.t 0)⟩), (1, ⟨some 109, none, .nilc (.t 108)⟩), (2, ⟨some 110, none, .fa 0 0 (.t 109)⟩), (3, ⟨some 111, none, .ld false 1 (.t 110)⟩), (4, ⟨some 112, none, .mov (.t 0)⟩), (5, ⟨some 113, none, .nilc (.t 112)⟩), (6, ⟨some 114, none, .fa 1 1 (.t 113)⟩), (7, ⟨some 115, none, .ld false 1 (.t 114)⟩), (8, ⟨some 116, none, .ix (.t 111) (.t 115)⟩), (9, ⟨some 117, none, .call (.c (.fn (.func 63) [] [])) [.t 116]⟩), (10, ⟨some 118, none, .mov (.t 117)⟩), (11, ⟨some 119, some (118, true), .mov (.t 2)⟩), (12, ⟨some 120, some (118, true), .mov (.t 0)⟩), (13, ⟨some 121, some (118, true), .nilc (.t 120)⟩), (14, ⟨some 122, some (118, true), .fa 0 0 (.t 121)⟩), (15, ⟨some 123, some (118, true), .ld false 1 (.t 122)⟩), (16, ⟨some 124, some (118, true), .lens (.t 123)⟩), (17, ⟨some 125, some (118, true), .bin (.lss) (.t 119) (.t 124)⟩), (18, ⟨some 126, none, .pick (.t 118) (.t 125) (.c (.bool false))⟩), (19, ⟨some 127, none, .mov (.t 126)⟩), (20, ⟨some 128, some (127, true), .mov (.t 0)⟩), (21, ⟨some 129, some (127, true), .nilc (.t 128)⟩), (22, ⟨some 130, some (127, true), .fa 0 0 (.t 129)⟩), (23, ⟨some 131, some (127, true), .ld false 1 (.t 130)⟩), (24, ⟨some 132, some (127, true), .mov (.t 2)⟩), (25, ⟨some 133, some (127, true), .ix (.t 131) (.t 132)⟩), (26, ⟨some 134, some (127, true), .call (.c (.fn (.func 63) [] [])) [.t 133]⟩), (27, ⟨some 135, some (127, true), .mov (.t 134)⟩), (28, ⟨some 136, some (135, false), .mov (.t 0)⟩), (29, ⟨some 137, some (135, false), .nilc (.t 136)⟩), (30, ⟨some 138, some (135, false), .fa 0 0 (.t 137)⟩), (31, ⟨some 139, some (135, false), .ld false 1 (.t 138)⟩), (32, ⟨some 140, some (135, false), .mov (.t 2)⟩), (33, ⟨some 141, some (135, false), .ix (.t 139) (.t 140)⟩), (34, ⟨some 142, some (135, false), .call (.c (.fn (.func 64) [] [])) [.t 141]⟩), (35, ⟨some 143, some (127, true), .pick (.t 135) (.c (.bool true)) (.t 142)⟩), (36, ⟨some 144, some (127, true), .mov (.t 143)⟩), (37, ⟨some 145, some (144, false), .mov (.t 0)⟩), (38, ⟨some 146, some (144, false), .nilc (.t 145)⟩), (39, ⟨some 147, some (144, false), .fa 0 0 (.t 146)⟩), (40, ⟨some 148, some (144, false), .ld false 1 (.t 147)⟩), (41, ⟨some 149, some (144, false), .mov (.t 2)⟩), (42, ⟨some 150, some (144, false), .ix (.t 148) (.t 149)⟩), (43, ⟨some 151, some (144, false), .bin (.eql) (.t 150) (.c (.int (.u8) 95))⟩), (44, ⟨some 152, some (127, true), .pick (.t 144) (.c (.bool true)) (.t 151)⟩), (45, ⟨some 153, none, .pick (.t 127) (.t 152) (.c (.bool false))⟩)] env H) : aw PP ref17_parser_advance_c25 K env H := aw_dreg_lexF _ _ B ref17_parser_advance_c25_okF h
def ref17_parser_advance_c26 : AC := .cond (.t 153) .skip (.exit 4)
@[simp] theorem ref17_parser_advance_c26_eq {K : AK} {env : Env} {H : AHeap} : aw PP ref17_parser_advance_c26 K env H = condQ PP (Opd.ev env (.t 153)) .skip (.exit 4) K env H := aw_cond _ .skip (.exit 4)
def ref17_parser_advance_c27 : AC := .seq ref17_parser_advance_c25 ref17_parser_advance_c26
@[simp] theorem ref17_parser_advance_c27_eq {K : AK} {env : Env} {H : AHeap} : aw PP ref17_parser_advance_c27 K env H = aw PP ref17_parser_advance_c25 (seqK PP ref17_parser_advance_c26 K) env H := aw_seq ref17_parser_advance_c25 ref17_parser_advance_c26
def ref17_parser_advance_c28 : AC := .reg [⟨some 154, none, .mov (.t 2)⟩, ⟨some 155, none, .bin (.add) (.t 154) (.c (.int (.i64) 1))⟩, ⟨some 2, none, .mov (.t 155)⟩] [153, 154, 155]
@[simp] theorem ref17_parser_advance_c28_eq {K : AK} {env : Env} {H : AHeap} : aw PP ref17_parser_advance_c28 K env H = awOps PP [⟨some 154, none, .mov (.t 2)⟩, ⟨some 155, none, .bin (.add) (.t 154) (.c (.int (.i64) 1))⟩, ⟨some 2, none, .mov (.t 155)⟩] (regK K [153, 154, 155]) (panK K) env H := aw_reg _ _
def ref17_parser_advance_c29 : AC := .block 5 ref17_parser_advance_c28
@[simp] theorem ref17_parser_advance_c29_eq {K : AK} {env : Env} {H : AHeap} : aw PP ref17_parser_advance_c29 K env H = aw PP ref17_parser_advance_c28 (blockK 5 K) env H := aw_block _ ref17_parser_advance_c28
def ref17_parser_advance_c30 : AC := .seq ref17_parser_advance_c27 ref17_parser_advance_c29
@[simp] theorem ref17_parser_advance_c30_eq {K : AK} {env : Env} {H : AHeap} : aw PP ref17_parser_advance_c30 K env H = aw PP ref17_parser_advance_c27 (seqK PP ref17_parser_advance_c29 K) env H := aw_seq ref17_parser_advance_c27 ref17_parser_advance_c29
def ref17_parser_advance_c31 : AC := .loop ref17_parser_advance_c30
def ref17_parser_advance_c32 : AC := .block 4 ref17_parser_advance_c31
@[simp] theorem ref17_parser_advance_c32_eq {K : AK} {env : Env} {H : AHeap} : aw PP ref17_parser_advance_c32 K env H = aw PP ref17_parser_advance_c31 (blockK 4 K) env H := aw_block _ ref17_parser_advance_c31
def ref17_parser_advance_c33_ops : List (AI × List Nat) := [(⟨some 156, none, .mov (.t 0)⟩, []), (⟨some 157, none, .nilc (.t 156)⟩, [0]), (⟨some 158, none, .fa 0 0 (.t 157)⟩, [1]), (⟨some 159, none, .ld false 1 (.t 158)⟩, [2]), (⟨some 160, none, .mov (.t 0)⟩, []), (⟨some 161, none, .nilc (.t 160)⟩, [4]), (⟨some 162, none, .fa 1 1 (.t 161)⟩, [5]), (⟨some 163, none, .ld false 1 (.t 162)⟩, [6]), (⟨some 164, none, .ix (.t 159) (.t 163)⟩, [3, 7]), (⟨some 165, none, .call (.c (.fn (.func 64) [] [])) [.t 164]⟩, [8]), (⟨some 166, none, .mov (.t 165)⟩, [9, 9]), (⟨some 167, some (166, true), .mov (.t 2)⟩, [10]), (⟨some 168, some (166, true), .mov (.t 0)⟩, [10]), (⟨some 169, some (166, true), .nilc (.t 168)⟩, [12, 10]), (⟨some 170, some (166, true), .fa 0 0 (.t 169)⟩, [13, 10]), (⟨some 171, some (166, true), .ld false 1 (.t 170)⟩, [14, 10]), (⟨some 172, some (166, true), .lens (.t 171)⟩, [15, 10]), (⟨some 173, some (166, true), .bin (.lss) (.t 167) (.t 172)⟩, [11, 16, 10]), (⟨some 174, none, .pick (.t 166) (.t 173) (.c (.bool false))⟩, [10, 17]), (⟨some 175, none, .mov (.t 174)⟩, [18, 10]), (⟨some 176, some (175, true), .mov (.t 0)⟩, [19]), (⟨some 177, some (175, true), .nilc (.t 176)⟩, [20, 19]), (⟨some 178, some (175, true), .fa 0 0 (.t 177)⟩, [21, 19]), (⟨some 179, some (175, true), .ld false 1 (.t 178)⟩, [22, 19]), (⟨some 180, some (175, true), .mov (.t 2)⟩, [19]), (⟨some 181, some (175, true), .ix (.t 179) (.t 180)⟩, [23, 24, 19]), (⟨some 182, some (175, true), .call (.c (.fn (.func 64) [] [])) [.t 181]⟩, [25, 19, 19]), (⟨some 183, none, .pick (.t 175) (.t 182) (.c (.bool false))⟩, [19, 26])]
def ref17_parser_advance_c33 : AC := .dreg ref17_parser_advance_c33_ops [153, 156, 157, 158, 159, 160, 161, 162, 163, 164, 165, 166, 167, 168, 169, 170, 171, 172, 173, 174, 175, 176, 177, 178, 179, 180, 181, 182]
theorem ref17_parser_advance_c33_ok : lexOK ref17_parser_advance_c33_ops (fun i => [].contains i) = true := by kernel_rfl
theorem ref17_parser_advance_c33_lex {K : AK} {env : Env} {H : AHeap} (h : awLex PP (fun i => [].contains i) (regK K [153, 156, 157, 158, 159, 160, 161, 162, 163, 164, 165, 166, 167, 168, 169, 170, 171, 172, 173, 174, 175, 176, 177, 178, 179, 180, 181, 182]) (panK K) [(0, ⟨some 156, none, .mov (.t 0)⟩), (1, ⟨some 157, none, .nilc (.t 156)⟩), (2, ⟨some 158, none, .fa 0 0 (.t 157)⟩), (3, ⟨some 159, none, .ld false 1 (.t 158)⟩), (4, ⟨some 160, none, .mov (.t 0)⟩), (5, ⟨some 161, none, .nilc (.t 160)⟩), (6, ⟨some 162, none, .fa 1 1 (.t 161)⟩), (7, ⟨some 163, none, .ld false 1 (.t 162)⟩), (8, ⟨some 164, none, .ix (.t 159) (.t 163)⟩), (9, ⟨some 165, none, .call (.c (.fn (.func 64) [] [])) [.t 164]⟩), (10, ⟨some 166, none, .mov (.t 165)⟩), (11, ⟨some 167, some (166, true), .mov (.t 2)⟩), (12, ⟨some 168, some (166, true), .mov (.t 0)⟩), (13, ⟨some 169, some (166, true), .nilc (.t 168)⟩), (14, ⟨some 170, some (166, true), .fa 0 0 (.t 169)⟩), (15, ⟨some 171, some (166, true), .ld false 1 (.t 170)⟩), (16, ⟨some 172, some (166, true), .lens (.t 171)⟩), (17, ⟨some 173, some (166, true), .bin (.lss) (.t 167) (.t 172)⟩), (18, ⟨some 174, none, .pick (.t 166) (.t 173) (.c (.bool false))⟩), (19, ⟨some 175, none, .mov (.t 174)⟩), (20, ⟨some 176, some (175, true), .mov (.t 0)⟩), (21, ⟨some 177, some (175, true), .nilc (.t 176)⟩), (22, ⟨some 178, some (175, true), .fa 0 0 (.t 177)⟩), (23, ⟨some 179, some (175, true), .ld false 1 (.t 178)⟩), (24, ⟨some 180, some (175, true), .mov (.t 2)⟩), (25, ⟨some 181, some (175, true), .ix (.t 179) (.t 180)⟩), (26, ⟨some 182, some (175, true), .call (.c (.fn (.func 64) [] [])) [.t 181]⟩), (27, ⟨some 183, none, .pick (.t 175) (.t 182) (.c (.bool false))⟩)] env H) : aw PP ref17_parser_advance_c33 K env H := aw_dreg_lex _ ref17_parser_advance_c33_ok h
theorem ref17_parser_advance_c33_okF : lexOKF ref17_parser_advance_c33_ops 25 (fun i => [9, 26].contains i) = true := by kernel_rfl
theorem ref17_parser_advance_c33_lexF {K : AK} {env : Env} {H : AHeap} (B : List Nat) (h : awLexF PP 25 (fun i => [9, 26].contains i) B H (regK K [153, 156, 157, 158, 159, 160, 161, 162, 163, 164, 165, 166, 167, 168, 169, 170, 171, 172, 173, 174, 175, 176, 177, 178, 179, 180, 181, 182]) (panK K) [(0, ⟨some 156, none, .mov (.t 0)⟩), (1, ⟨some 157, none, .nilc (.t 156)⟩), (2, ⟨some 158, none, .fa 0 0 (.t 157)⟩), (3, ⟨some 159, none, .ld false 1 (.t 158)⟩), (4, ⟨some 160, none, .mov (.t 0)⟩), (5, ⟨some 161, none, .nilc (.t 160)⟩), (6, ⟨some 162, none, .fa 1 1 (.t 161)⟩), (7, ⟨some 163, none, .ld false 1 (.t 162)⟩), (8, ⟨some 164, none, .ix (.t 159) (.t 163)⟩), (9, ⟨some 165, none, .call (.c (.fn (.func 64) [] [])) [.t 164]⟩), (10, ⟨some 166, none, .mov (.t 165)⟩), (11, ⟨some 167, some (166, true), .mov (.t 2)⟩), (12, ⟨some 168, some (166, true), .mov (.t 0)⟩), (13, ⟨some 169, some (166, true), .nilc (.t 168)⟩), (14, ⟨some 170, some (166, true), .fa 0 0 (.t 169)⟩), (15, ⟨some 171, some (166, true), .ld false 1 (.t 170)⟩), (16, ⟨some 172, some (166, true), .lens (.t 171)⟩), (17, ⟨some 173, some (166, true), .bin (.lss) (.t 167) (.t 172)⟩), (18, ⟨some 174, none, .pick (.t 166) (.t 173) (.c (.bool false))⟩), (19, ⟨some 175, none, .mov (.t 174)⟩), (20, ⟨some 176, some (175, true), .mov (.t 0)⟩), (21, ⟨some 177, some (175, true), .nilc (.t 176)⟩), (22, ⟨some 178, some (175, true), .fa 0 0 (.t 177)⟩), (23, ⟨some 179, some (175, true), .ld false 1 (.t 178)⟩), (24, ⟨some 180, some (175, true), .mov (.t 2)⟩), (25, ⟨some 181, some (175, true), .ix (.t 179) (.t 180)⟩), (26, ⟨some 182, some (175, true), .call (.c (.fn (.func 64) [] [])) [.t 181]⟩), (27, ⟨some 183, none, .pick (.t 175) (.t 182) (.c (.bool false))⟩)] env H) : aw PP ref17_parser_advance_c33 K env H := aw_dreg_lexF _ _ B ref17_parser_advance_c33_okF h
def ref17_parser_advance_c34 : AC := .cond (.t 183) .skip (.exit 6)
@[simp] theorem ref17_parser_advance_c34_eq {K : AK} {env : Env} {H : AHeap} : aw PP ref17_parser_advance_c34 K env H = condQ PP (Opd.ev env (.t 183)) .skip (.exit 6) K env H := aw_cond _ .skip (.exit 6)
def ref17_parser_advance_c35 : AC := .seq ref17_parser_advance_c33 ref17_parser_advance_c34
@[simp] theorem ref17_parser_advance_c35_eq {K : AK} {env : Env} {H : AHeap} : aw PP ref17_parser_advance_c35 K env H = aw PP ref17_parser_advance_c33 (seqK PP ref17_parser_advance_c34 K) env H := aw_seq ref17_parser_advance_c33 ref17_parser_advance_c34
def ref17_parser_advance_c36 : AC := .reg [⟨some 184, none, .mov (.t 2)⟩, ⟨some 185, none, .bin (.add) (.t 184) (.c (.int (.i64) 1))⟩, ⟨some 2, none, .mov (.t 185)⟩] [183, 184, 185]
@[simp] theorem ref17_parser_advance_c36_eq {K : AK} {env : Env} {H : AHeap} : aw PP ref17_parser_advance_c36 K env H = awOps PP [⟨some 184, none, .mov (.t 2)⟩, ⟨some 185, none, .bin (.add) (.t 184) (.c (.int (.i64) 1))⟩, ⟨some 2, none, .mov (.t 185)⟩] (regK K [183, 184, 185]) (panK K) env H := aw_reg _ _
def ref17_parser_advance_c37 : AC := .block 7 ref17_parser_advance_c36
@[simp] theorem ref17_parser_advance_c37_eq {K : AK} {env : Env} {H : AHeap} : aw PP ref17_parser_advance_c37 K env H = aw PP ref17_parser_advance_c36 (blockK 7 K) env H := aw_block _ ref17_parser_advance_c36
def ref17_parser_advance_c38 : AC := .seq ref17_parser_advance_c35 ref17_parser_advance_c37
@[simp] theorem ref17_parser_advance_c38_eq {K : AK} {env : Env} {H : AHeap} : aw PP ref17_parser_advance_c38 K env H = aw PP ref17_parser_advance_c35 (seqK PP ref17_parser_advance_c37 K) env H := aw_seq ref17_parser_advance_c35 ref17_parser_advance_c37
def ref17_parser_advance_c39 : AC := .loop ref17_parser_advance_c38
def ref17_parser_advance_c40 : AC := .block 6 ref17_parser_advance_c39
@[simp] theorem ref17_parser_advance_c40_eq {K : AK} {env : Env} {H : AHeap} : aw PP ref17_parser_advance_c40 K env H = aw PP ref17_parser_advance_c39 (blockK 6 K) env H := aw_block _ ref17_parser_advance_c39
def ref17_parser_advance_c41 : AC := .seq ref17_parser_advance_c32 ref17_parser_advance_c40
@[simp] theorem ref17_parser_advance_c41_eq {K : AK} {env : Env} {H : AHeap} : aw PP ref17_parser_advance_c41 K env H = aw PP ref17_parser_advance_c32 (seqK PP ref17_parser_advance_c40 K) env H := aw_seq ref17_parser_advance_c32 ref17_parser_advance_c40
def ref17_parser_advance_c42 : AC := .seq ref17_parser_advance_c24 ref17_parser_advance_c41
@[simp] theorem ref17_parser_advance_c42_eq {K : AK} {env : Env} {H : AHeap} : aw PP ref17_parser_advance_c42 K env H = aw PP ref17_parser_advance_c24 (seqK PP ref17_parser_advance_c41 K) env H := aw_seq ref17_parser_advance_c24 ref17_parser_advance_c41
def ref17_parser_advance_c43 : AC := .cond (.t 105) ref17_parser_advance_c42 .skip
@[simp] theorem ref17_parser_advance_c43_eq {K : AK} {env : Env} {H : AHeap} : aw PP ref17_parser_advance_c43 K env H = condQ PP (Opd.ev env (.t 105)) ref17_parser_advance_c42 .skip K env H := aw_cond _ ref17_parser_advance_c42 .skip
def ref17_parser_advance_c44 : AC := .seq ref17_parser_advance_c23 ref17_parser_advance_c43
@[simp] theorem ref17_parser_advance_c44_eq {K : AK} {env : Env} {H : AHeap} : aw PP ref17_parser_advance_c44 K env H = aw PP ref17_parser_advance_c23 (seqK PP ref17_parser_advance_c43 K) env H := aw_seq ref17_parser_advance_c23 ref17_parser_advance_c43
def ref17_parser_advance_c45 : AC := .reg [⟨some 186, none, .mov (.t 0)⟩, ⟨some 187, none, .mov (.t 2)⟩, ⟨some 188, none, .mov (.t 0)⟩, ⟨some 189, none, .nilc (.t 188)⟩, ⟨some 190, none, .fa 1 1 (.t 189)⟩, ⟨some 191, none, .ld false 1 (.t 190)⟩, ⟨some 192, none, .bin (.sub) (.t 187) (.t 191)⟩, ⟨some 193, none, .nilc (.t 186)⟩, ⟨some 194, none, .fa 2 2 (.t 193)⟩, ⟨none, none, .st 1 (.t 194) (.t 192)⟩] [0, 2, 105, 183, 186, 187, 188, 189, 190, 191, 192, 193, 194]
@[simp] theorem ref17_parser_advance_c45_eq {K : AK} {env : Env} {H : AHeap} : aw PP ref17_parser_advance_c45 K env H = awOps PP [⟨some 186, none, .mov (.t 0)⟩, ⟨some 187, none, .mov (.t 2)⟩, ⟨some 188, none, .mov (.t 0)⟩, ⟨some 189, none, .nilc (.t 188)⟩, ⟨some 190, none, .fa 1 1 (.t 189)⟩, ⟨some 191, none, .ld false 1 (.t 190)⟩, ⟨some 192, none, .bin (.sub) (.t 187) (.t 191)⟩, ⟨some 193, none, .nilc (.t 186)⟩, ⟨some 194, none, .fa 2 2 (.t 193)⟩, ⟨none, none, .st 1 (.t 194) (.t 192)⟩] (regK K [0, 2, 105, 183, 186, 187, 188, 189, 190, 191, 192, 193, 194]) (panK K) env H := aw_reg _ _
def ref17_parser_advance_c46 : AC := .seq ref17_parser_advance_c44 ref17_parser_advance_c45
@[simp] theorem ref17_parser_advance_c46_eq {K : AK} {env : Env} {H : AHeap} : aw PP ref17_parser_advance_c46 K env H = aw PP ref17_parser_advance_c44 (seqK PP ref17_parser_advance_c45 K) env H := aw_seq ref17_parser_advance_c44 ref17_parser_advance_c45
def ref17_parser_advance_c47 : AC := .seq ref17_parser_advance_c22 ref17_parser_advance_c46
@[simp] theorem ref17_parser_advance_c47_eq {K : AK} {env : Env} {H : AHeap} : aw PP ref17_parser_advance_c47 K env H = aw PP ref17_parser_advance_c22 (seqK PP ref17_parser_advance_c46 K) env H := aw_seq ref17_parser_advance_c22 ref17_parser_advance_c46
def ref17_parser_advance_c48 : AC := .seq ref17_parser_advance_c21 ref17_parser_advance_c47
@[simp] theorem ref17_parser_advance_c48_eq {K : AK} {env : Env} {H : AHeap} : aw PP ref17_parser_advance_c48 K env H = aw PP ref17_parser_advance_c21 (seqK PP ref17_parser_advance_c47 K) env H := aw_seq ref17_parser_advance_c21 ref17_parser_advance_c47
def ref17_parser_advance_c49 : AC := .seq ref17_parser_advance_c0 ref17_parser_advance_c48
@[simp] theorem ref17_parser_advance_c49_eq {K : AK} {env : Env} {H : AHeap} : aw PP ref17_parser_advance_c49 K env H = aw PP ref17_parser_advance_c0 (seqK PP ref17_parser_advance_c48 K) env H := aw_seq ref17_parser_advance_c0 ref17_parser_advance_c48
def ref17_parser_advance_ac : AC := ref17_parser_advance_c49
@[simp] theorem ref17_parser_advance_ac_eq {K : AK} {env : Env} {H : AHeap} : aw PP ref17_parser_advance_ac K env H = aw PP ref17_parser_advance_c49 K env H := Eq.trans rfl rfl
def ref17_parser_advance_rs : List ARV := []
abbrev ref17_parser_advance_id : Nat := 25
theorem ref17_parser_advance_comp : compF PP ref17_parser_advance_kl ref17_parser_advance_ow 1 Try.f25 = some (ref17_parser_advance_ac, ref17_parser_advance_rs) := by kernel_rfl
theorem ref17_parser_advance_enter {args : List AV} {H : AHeap} {post : ARes → AHeap → Prop} (ha : args.length = 1) (h : aw PP ref17_parser_advance_ac (retK ref17_parser_advance_rs post) (argEnv 0 args) H) : ACalls PP ref17_parser_advance_id args H post := .enterF Try.func25 PP_mix ref17_parser_advance_comp ha h

/-! (*emendate.emendateref17.parser).take -/
def ref17_parser_take_kl : Nat → List Nat
  | 0 => [1, 4, 5, 6]
  | 1 => [0, 7, 8, 9, 10]
  | 2 => [0, 7, 11, 12]
  | _ => []
def ref17_parser_take_ow : Nat → Nat → Bool := fun _ _ => false
def ref17_parser_take_c0 : AC := .reg [⟨some 4, none, .mov (.t 0)⟩, ⟨some 5, none, .mov (.t 1)⟩, ⟨some 6, none, .call (.c (.fn (.func 28) [] [])) [.t 4, .t 5]⟩, ⟨some 7, none, .not (.t 6)⟩] [1, 4, 5, 6]
@[simp] theorem ref17_parser_take_c0_eq {K : AK} {env : Env} {H : AHeap} : aw PP ref17_parser_take_c0 K env H = awOps PP [⟨some 4, none, .mov (.t 0)⟩, ⟨some 5, none, .mov (.t 1)⟩, ⟨some 6, none, .call (.c (.fn (.func 28) [] [])) [.t 4, .t 5]⟩, ⟨some 7, none, .not (.t 6)⟩] (regK K [1, 4, 5, 6]) (panK K) env H := aw_reg _ _
def ref17_parser_take_c1 : AC := .reg [⟨some 8, none, .mov (.t 0)⟩, ⟨some 9, none, .nilc (.t 8)⟩, ⟨some 10, none, .fa 3 3 (.t 9)⟩, ⟨none, none, .st 1 (.t 10) (.c (.bool true))⟩] [0, 7, 8, 9, 10]
@[simp] theorem ref17_parser_take_c1_eq {K : AK} {env : Env} {H : AHeap} : aw PP ref17_parser_take_c1 K env H = awOps PP [⟨some 8, none, .mov (.t 0)⟩, ⟨some 9, none, .nilc (.t 8)⟩, ⟨some 10, none, .fa 3 3 (.t 9)⟩, ⟨none, none, .st 1 (.t 10) (.c (.bool true))⟩] (regK K [0, 7, 8, 9, 10]) (panK K) env H := aw_reg _ _
def ref17_parser_take_c2 : AC := .seq ref17_parser_take_c1 .ret
@[simp] theorem ref17_parser_take_c2_eq {K : AK} {env : Env} {H : AHeap} : aw PP ref17_parser_take_c2 K env H = aw PP ref17_parser_take_c1 (seqK PP .ret K) env H := aw_seq ref17_parser_take_c1 .ret
def ref17_parser_take_c3 : AC := .cond (.t 7) ref17_parser_take_c2 .skip
@[simp] theorem ref17_parser_take_c3_eq {K : AK} {env : Env} {H : AHeap} : aw PP ref17_parser_take_c3 K env H = condQ PP (Opd.ev env (.t 7)) ref17_parser_take_c2 .skip K env H := aw_cond _ ref17_parser_take_c2 .skip
def ref17_parser_take_c4 : AC := .seq ref17_parser_take_c0 ref17_parser_take_c3
@[simp] theorem ref17_parser_take_c4_eq {K : AK} {env : Env} {H : AHeap} : aw PP ref17_parser_take_c4 K env H = aw PP ref17_parser_take_c0 (seqK PP ref17_parser_take_c3 K) env H := aw_seq ref17_parser_take_c0 ref17_parser_take_c3
def ref17_parser_take_c5 : AC := .reg [⟨some 11, none, .mov (.t 0)⟩, ⟨some 12, none, .call (.c (.fn (.func 25) [] [])) [.t 11]⟩] [0, 7, 11, 12]
@[simp] theorem ref17_parser_take_c5_eq {K : AK} {env : Env} {H : AHeap} : aw PP ref17_parser_take_c5 K env H = awOps PP [⟨some 11, none, .mov (.t 0)⟩, ⟨some 12, none, .call (.c (.fn (.func 25) [] [])) [.t 11]⟩] (regK K [0, 7, 11, 12]) (panK K) env H := aw_reg _ _
def ref17_parser_take_c6 : AC := .seq ref17_parser_take_c4 ref17_parser_take_c5
@[simp] theorem ref17_parser_take_c6_eq {K : AK} {env : Env} {H : AHeap} : aw PP ref17_parser_take_c6 K env H = aw PP ref17_parser_take_c4 (seqK PP ref17_parser_take_c5 K) env H := aw_seq ref17_parser_take_c4 ref17_parser_take_c5
def ref17_parser_take_ac : AC := ref17_parser_take_c6
@[simp] theorem ref17_parser_take_ac_eq {K : AK} {env : Env} {H : AHeap} : aw PP ref17_parser_take_ac K env H = aw PP ref17_parser_take_c6 K env H := Eq.trans rfl rfl
def ref17_parser_take_rs : List ARV := []
abbrev ref17_parser_take_id : Nat := 26
theorem ref17_parser_take_comp : compF PP ref17_parser_take_kl ref17_parser_take_ow 2 Try.f26 = some (ref17_parser_take_ac, ref17_parser_take_rs) := by kernel_rfl
theorem ref17_parser_take_enter {args : List AV} {H : AHeap} {post : ARes → AHeap → Prop} (ha : args.length = 2) (h : aw PP ref17_parser_take_ac (retK ref17_parser_take_rs post) (argEnv 0 args) H) : ACalls PP ref17_parser_take_id args H post := .enterF Try.func26 PP_mix ref17_parser_take_comp ha h

/-! (*emendate.emendateref17.parser).name -/
def ref17_parser_name_kl : Nat → List Nat
  | 0 => [2]
  | 1 => [4, 5]
  | 2 => [0, 6, 7, 8, 9]
  | 4 => [6, 10, 11]
  | 5 => [0, 12, 13]
  | 6 => [3, 14]
  | _ => []
def ref17_parser_name_ow : Nat → Nat → Bool := fun _ _ => false
def ref17_parser_name_c0 : AC := .reg [⟨some 2, none, .mov (.c (.str []))⟩] [2]
@[simp] theorem ref17_parser_name_c0_eq {K : AK} {env : Env} {H : AHeap} : aw PP ref17_parser_name_c0 K env H = awOps PP [⟨some 2, none, .mov (.c (.str []))⟩] (regK K [2]) (panK K) env H := aw_reg _ _
def ref17_parser_name_c1 : AC := .reg [⟨some 4, none, .mov (.t 0)⟩, ⟨some 5, none, .call (.c (.fn (.func 30) [] [])) [.t 4]⟩, ⟨some 6, none, .not (.t 5)⟩] [4, 5]
@[simp] theorem ref17_parser_name_c1_eq {K : AK} {env : Env} {H : AHeap} : aw PP ref17_parser_name_c1 K env H = awOps PP [⟨some 4, none, .mov (.t 0)⟩, ⟨some 5, none, .call (.c (.fn (.func 30) [] [])) [.t 4]⟩, ⟨some 6, none, .not (.t 5)⟩] (regK K [4, 5]) (panK K) env H := aw_reg _ _
def ref17_parser_name_c2 : AC := .reg [⟨some 7, none, .mov (.t 0)⟩, ⟨some 8, none, .nilc (.t 7)⟩, ⟨some 9, none, .fa 3 3 (.t 8)⟩, ⟨none, none, .st 1 (.t 9) (.c (.bool true))⟩] [0, 6, 7, 8, 9]
@[simp] theorem ref17_parser_name_c2_eq {K : AK} {env : Env} {H : AHeap} : aw PP ref17_parser_name_c2 K env H = awOps PP [⟨some 7, none, .mov (.t 0)⟩, ⟨some 8, none, .nilc (.t 7)⟩, ⟨some 9, none, .fa 3 3 (.t 8)⟩, ⟨none, none, .st 1 (.t 9) (.c (.bool true))⟩] (regK K [0, 6, 7, 8, 9]) (panK K) env H := aw_reg _ _
def ref17_parser_name_c3 : AC := .reg [⟨some 2, none, .mov (.c (.str []))⟩] []
@[simp] theorem ref17_parser_name_c3_eq {K : AK} {env : Env} {H : AHeap} : aw PP ref17_parser_name_c3 K env H = awOps PP [⟨some 2, none, .mov (.c (.str []))⟩] (regK K []) (panK K) env H := aw_reg _ _
def ref17_parser_name_c4 : AC := .seq ref17_parser_name_c3 .ret
@[simp] theorem ref17_parser_name_c4_eq {K : AK} {env : Env} {H : AHeap} : aw PP ref17_parser_name_c4 K env H = aw PP ref17_parser_name_c3 (seqK PP .ret K) env H := aw_seq ref17_parser_name_c3 .ret
def ref17_parser_name_c5 : AC := .seq ref17_parser_name_c2 ref17_parser_name_c4
@[simp] theorem ref17_parser_name_c5_eq {K : AK} {env : Env} {H : AHeap} : aw PP ref17_parser_name_c5 K env H = aw PP ref17_parser_name_c2 (seqK PP ref17_parser_name_c4 K) env H := aw_seq ref17_parser_name_c2 ref17_parser_name_c4
def ref17_parser_name_c6 : AC := .cond (.t 6) ref17_parser_name_c5 .skip
@[simp] theorem ref17_parser_name_c6_eq {K : AK} {env : Env} {H : AHeap} : aw PP ref17_parser_name_c6 K env H = condQ PP (Opd.ev env (.t 6)) ref17_parser_name_c5 .skip K env H := aw_cond _ ref17_parser_name_c5 .skip
def ref17_parser_name_c7 : AC := .seq ref17_parser_name_c1 ref17_parser_name_c6
@[simp] theorem ref17_parser_name_c7_eq {K : AK} {env : Env} {H : AHeap} : aw PP ref17_parser_name_c7 K env H = aw PP ref17_parser_name_c1 (seqK PP ref17_parser_name_c6 K) env H := aw_seq ref17_parser_name_c1 ref17_parser_name_c6
def ref17_parser_name_c8 : AC := .reg [⟨some 10, none, .mov (.t 0)⟩, ⟨some 11, none, .call (.c (.fn (.func 34) [] [])) [.t 10]⟩, ⟨some 3, none, .mov (.t 11)⟩] [6, 10, 11]
@[simp] theorem ref17_parser_name_c8_eq {K : AK} {env : Env} {H : AHeap} : aw PP ref17_parser_name_c8 K env H = awOps PP [⟨some 10, none, .mov (.t 0)⟩, ⟨some 11, none, .call (.c (.fn (.func 34) [] [])) [.t 10]⟩, ⟨some 3, none, .mov (.t 11)⟩] (regK K [6, 10, 11]) (panK K) env H := aw_reg _ _
def ref17_parser_name_c9 : AC := .reg [⟨some 12, none, .mov (.t 0)⟩, ⟨some 13, none, .call (.c (.fn (.func 25) [] [])) [.t 12]⟩] [0, 12, 13]
@[simp] theorem ref17_parser_name_c9_eq {K : AK} {env : Env} {H : AHeap} : aw PP ref17_parser_name_c9 K env H = awOps PP [⟨some 12, none, .mov (.t 0)⟩, ⟨some 13, none, .call (.c (.fn (.func 25) [] [])) [.t 12]⟩] (regK K [0, 12, 13]) (panK K) env H := aw_reg _ _
def ref17_parser_name_c10 : AC := .reg [⟨some 14, none, .mov (.t 3)⟩, ⟨some 2, none, .mov (.t 14)⟩] [3, 14]
@[simp] theorem ref17_parser_name_c10_eq {K : AK} {env : Env} {H : AHeap} : aw PP ref17_parser_name_c10 K env H = awOps PP [⟨some 14, none, .mov (.t 3)⟩, ⟨some 2, none, .mov (.t 14)⟩] (regK K [3, 14]) (panK K) env H := aw_reg _ _
def ref17_parser_name_c11 : AC := .seq ref17_parser_name_c10 .ret
@[simp] theorem ref17_parser_name_c11_eq {K : AK} {env : Env} {H : AHeap} : aw PP ref17_parser_name_c11 K env H = aw PP ref17_parser_name_c10 (seqK PP .ret K) env H := aw_seq ref17_parser_name_c10 .ret
def ref17_parser_name_c12 : AC := .seq ref17_parser_name_c9 ref17_parser_name_c11
@[simp] theorem ref17_parser_name_c12_eq {K : AK} {env : Env} {H : AHeap} : aw PP ref17_parser_name_c12 K env H = aw PP ref17_parser_name_c9 (seqK PP ref17_parser_name_c11 K) env H := aw_seq ref17_parser_name_c9 ref17_parser_name_c11
def ref17_parser_name_c13 : AC := .seq ref17_parser_name_c8 ref17_parser_name_c12
@[simp] theorem ref17_parser_name_c13_eq {K : AK} {env : Env} {H : AHeap} : aw PP ref17_parser_name_c13 K env H = aw PP ref17_parser_name_c8 (seqK PP ref17_parser_name_c12 K) env H := aw_seq ref17_parser_name_c8 ref17_parser_name_c12
def ref17_parser_name_c14 : AC := .seq ref17_parser_name_c7 ref17_parser_name_c13
@[simp] theorem ref17_parser_name_c14_eq {K : AK} {env : Env} {H : AHeap} : aw PP ref17_parser_name_c14 K env H = aw PP ref17_parser_name_c7 (seqK PP ref17_parser_name_c13 K) env H := aw_seq ref17_parser_name_c7 ref17_parser_name_c13
def ref17_parser_name_c15 : AC := .seq ref17_parser_name_c0 ref17_parser_name_c14
@[simp] theorem ref17_parser_name_c15_eq {K : AK} {env : Env} {H : AHeap} : aw PP ref17_parser_name_c15 K env H = aw PP ref17_parser_name_c0 (seqK PP ref17_parser_name_c14 K) env H := aw_seq ref17_parser_name_c0 ref17_parser_name_c14
def ref17_parser_name_ac : AC := ref17_parser_name_c15
@[simp] theorem ref17_parser_name_ac_eq {K : AK} {env : Env} {H : AHeap} : aw PP ref17_parser_name_ac K env H = aw PP ref17_parser_name_c15 K env H := Eq.trans rfl rfl
def ref17_parser_name_rs : List ARV := [.tmp 2]
abbrev ref17_parser_name_id : Nat := 27
theorem ref17_parser_name_comp : compF PP ref17_parser_name_kl ref17_parser_name_ow 1 Try.f27 = some (ref17_parser_name_ac, ref17_parser_name_rs) := by kernel_rfl
theorem ref17_parser_name_enter {args : List AV} {H : AHeap} {post : ARes → AHeap → Prop} (ha : args.length = 1) (h : aw PP ref17_parser_name_ac (retK ref17_parser_name_rs post) (argEnv 0 args) H) : ACalls PP ref17_parser_name_id args H post := .enterF Try.func27 PP_mix ref17_parser_name_comp ha h

/-! (*emendate.emendateref17.parser).is -/
def ref17_parser_is_kl : Nat → List Nat
  | 0 => [4]
  | 1 => [0, 1, 5, 6, 7, 8, 9, 10, 11, 12, 13, 14, 15]
  | _ => []
def ref17_parser_is_ow : Nat → Nat → Bool := fun _ _ => false
def ref17_parser_is_c0 : AC := .reg [⟨some 4, none, .mov (.c (.bool false))⟩] [4]
@[simp] theorem ref17_parser_is_c0_eq {K : AK} {env : Env} {H : AHeap} : aw PP ref17_parser_is_c0 K env H = awOps PP [⟨some 4, none, .mov (.c (.bool false))⟩] (regK K [4]) (panK K) env H := aw_reg _ _
def ref17_parser_is_c1 : AC := .reg [⟨some 5, none, .mov (.t 0)⟩, ⟨some 6, none, .nilc (.t 5)⟩, ⟨some 7, none, .fa 3 3 (.t 6)⟩, ⟨some 8, none, .ld false 1 (.t 7)⟩, ⟨some 9, none, .not (.t 8)⟩, ⟨some 10, none, .mov (.t 9)⟩, ⟨some 11, some (10, true), .mov (.t 0)⟩, ⟨some 12, some (10, true), .call (.c (.fn (.func 34) [] [])) [.t 11]⟩, ⟨some 13, some (10, true), .mov (.t 1)⟩, ⟨some 14, some (10, true), .bin (.eql) (.t 12) (.t 13)⟩, ⟨some 15, none, .pick (.t 10) (.t 14) (.c (.bool false))⟩, ⟨some 4, none, .mov (.t 15)⟩] [0, 1, 5, 6, 7, 8, 9, 10, 11, 12, 13, 14, 15]
@[simp] theorem ref17_parser_is_c1_eq {K : AK} {env : Env} {H : AHeap} : aw PP ref17_parser_is_c1 K env H = awOps PP [⟨some 5, none, .mov (.t 0)⟩, ⟨some 6, none, .nilc (.t 5)⟩, ⟨some 7, none, .fa 3 3 (.t 6)⟩, ⟨some 8, none, .ld false 1 (.t 7)⟩, ⟨some 9, none, .not (.t 8)⟩, ⟨some 10, none, .mov (.t 9)⟩, ⟨some 11, some (10, true), .mov (.t 0)⟩, ⟨some 12, some (10, true), .call (.c (.fn (.func 34) [] [])) [.t 11]⟩, ⟨some 13, some (10, true), .mov (.t 1)⟩, ⟨some 14, some (10, true), .bin (.eql) (.t 12) (.t 13)⟩, ⟨some 15, none, .pick (.t 10) (.t 14) (.c (.bool false))⟩, ⟨some 4, none, .mov (.t 15)⟩] (regK K [0, 1, 5, 6, 7, 8, 9, 10, 11, 12, 13, 14, 15]) (panK K) env H := aw_reg _ _
def ref17_parser_is_c2 : AC := .seq ref17_parser_is_c1 .ret
@[simp] theorem ref17_parser_is_c2_eq {K : AK} {env : Env} {H : AHeap} : aw PP ref17_parser_is_c2 K env H = aw PP ref17_parser_is_c1 (seqK PP .ret K) env H := aw_seq ref17_parser_is_c1 .ret
def ref17_parser_is_c3 : AC := .seq ref17_parser_is_c0 ref17_parser_is_c2
@[simp] theorem ref17_parser_is_c3_eq {K : AK} {env : Env} {H : AHeap} : aw PP ref17_parser_is_c3 K env H = aw PP ref17_parser_is_c0 (seqK PP ref17_parser_is_c2 K) env H := aw_seq ref17_parser_is_c0 ref17_parser_is_c2
def ref17_parser_is_ac : AC := ref17_parser_is_c3
@[simp] theorem ref17_parser_is_ac_eq {K : AK} {env : Env} {H : AHeap} : aw PP ref17_parser_is_ac K env H = aw PP ref17_parser_is_c3 K env H := Eq.trans rfl rfl
def ref17_parser_is_rs : List ARV := [.tmp 4]
abbrev ref17_parser_is_id : Nat := 28
theorem ref17_parser_is_comp : compF PP ref17_parser_is_kl ref17_parser_is_ow 2 Try.f28 = some (ref17_parser_is_ac, ref17_parser_is_rs) := by kernel_rfl
theorem ref17_parser_is_enter {args : List AV} {H : AHeap} {post : ARes → AHeap → Prop} (ha : args.length = 2) (h : aw PP ref17_parser_is_ac (retK ref17_parser_is_rs post) (argEnv 0 args) H) : ACalls PP ref17_parser_is_id args H post := .enterF Try.func28 PP_mix ref17_parser_is_comp ha h

/-! (*emendate.emendateref17.parser).level -/
def ref17_parser_level_kl : Nat → List Nat
  | 1 => [5]
  | 2 => [6]
  | 3 => [7, 8]
  | 4 => [7, 9]
  | 5 => [10, 11]
  | 6 => [10, 12, 13]
  | 7 => [14, 15, 16]
  | 8 => [17]
  | 9 => [18, 19, 20, 21, 22, 23]
  | 10 => [0, 18, 24, 25]
  | 11 => [4, 26, 27]
  | 12 => [3, 28]
  | _ => []
def ref17_parser_level_ow : Nat → Nat → Bool := fun a b => (a == 7 && b == 2)
def ref17_parser_level_c0 : AC := .reg [⟨some 2, none, .alloc (.struct [.int (.i64) 0, .nils]) 64⟩] []
@[simp] theorem ref17_parser_level_c0_eq {K : AK} {env : Env} {H : AHeap} : aw PP ref17_parser_level_c0 K env H = awOps PP [⟨some 2, none, .alloc (.struct [.int (.i64) 0, .nils]) 64⟩] (regK K []) (panK K) env H := aw_reg _ _
def ref17_parser_level_c1 : AC := .reg [⟨some 5, none, .build [.int (.i64) 0, .nils] [(0, .c (.int (.i64) 3))]⟩, ⟨some 3, none, .alloc (.struct [.int (.i64) 0, .nils]) 64⟩, ⟨none, none, .st 2 (.t 3) (.t 5)⟩] [5]
@[simp] theorem ref17_parser_level_c1_eq {K : AK} {env : Env} {H : AHeap} : aw PP ref17_parser_level_c1 K env H = awOps PP [⟨some 5, none, .build [.int (.i64) 0, .nils] [(0, .c (.int (.i64) 3))]⟩, ⟨some 3, none, .alloc (.struct [.int (.i64) 0, .nils]) 64⟩, ⟨none, none, .st 2 (.t 3) (.t 5)⟩] (regK K [5]) (panK K) env H := aw_reg _ _
def ref17_parser_level_c2 : AC := .reg [⟨some 6, none, .mov (.t 0)⟩, ⟨some 7, none, .call (.c (.fn (.func 28) [] [])) [.t 6, .c (.str [108, 101, 102, 116])]⟩] [6]
@[simp] theorem ref17_parser_level_c2_eq {K : AK} {env : Env} {H : AHeap} : aw PP ref17_parser_level_c2 K env H = awOps PP [⟨some 6, none, .mov (.t 0)⟩, ⟨some 7, none, .call (.c (.fn (.func 28) [] [])) [.t 6, .c (.str [108, 101, 102, 116])]⟩] (regK K [6]) (panK K) env H := aw_reg _ _
def ref17_parser_level_c3 : AC := .reg [⟨some 8, none, .fa 0 0 (.t 3)⟩, ⟨none, none, .st 1 (.t 8) (.c (.int (.i64) 1))⟩] [7, 8]
@[simp] theorem ref17_parser_level_c3_eq {K : AK} {env : Env} {H : AHeap} : aw PP ref17_parser_level_c3 K env H = awOps PP [⟨some 8, none, .fa 0 0 (.t 3)⟩, ⟨none, none, .st 1 (.t 8) (.c (.int (.i64) 1))⟩] (regK K [7, 8]) (panK K) env H := aw_reg _ _
def ref17_parser_level_c4 : AC := .cond (.t 7) ref17_parser_level_c3 .skip
@[simp] theorem ref17_parser_level_c4_eq {K : AK} {env : Env} {H : AHeap} : aw PP ref17_parser_level_c4 K env H = condQ PP (Opd.ev env (.t 7)) ref17_parser_level_c3 .skip K env H := aw_cond _ ref17_parser_level_c3 .skip
def ref17_parser_level_c5 : AC := .seq ref17_parser_level_c2 ref17_parser_level_c4
@[simp] theorem ref17_parser_level_c5_eq {K : AK} {env : Env} {H : AHeap} : aw PP ref17_parser_level_c5 K env H = aw PP ref17_parser_level_c2 (seqK PP ref17_parser_level_c4 K) env H := aw_seq ref17_parser_level_c2 ref17_parser_level_c4
def ref17_parser_level_c6 : AC := .reg [⟨some 9, none, .mov (.t 0)⟩, ⟨some 10, none, .call (.c (.fn (.func 28) [] [])) [.t 9, .c (.str [114, 105, 103, 104, 116])]⟩] [7, 9]
@[simp] theorem ref17_parser_level_c6_eq {K : AK} {env : Env} {H : AHeap} : aw PP ref17_parser_level_c6 K env H = awOps PP [⟨some 9, none, .mov (.t 0)⟩, ⟨some 10, none, .call (.c (.fn (.func 28) [] [])) [.t 9, .c (.str [114, 105, 103, 104, 116])]⟩] (regK K [7, 9]) (panK K) env H := aw_reg _ _
def ref17_parser_level_c7 : AC := .reg [⟨some 11, none, .fa 0 0 (.t 3)⟩, ⟨none, none, .st 1 (.t 11) (.c (.int (.i64) 2))⟩] [10, 11]
@[simp] theorem ref17_parser_level_c7_eq {K : AK} {env : Env} {H : AHeap} : aw PP ref17_parser_level_c7 K env H = awOps PP [⟨some 11, none, .fa 0 0 (.t 3)⟩, ⟨none, none, .st 1 (.t 11) (.c (.int (.i64) 2))⟩] (regK K [10, 11]) (panK K) env H := aw_reg _ _
def ref17_parser_level_c8 : AC := .cond (.t 10) ref17_parser_level_c7 .skip
@[simp] theorem ref17_parser_level_c8_eq {K : AK} {env : Env} {H : AHeap} : aw PP ref17_parser_level_c8 K env H = condQ PP (Opd.ev env (.t 10)) ref17_parser_level_c7 .skip K env H := aw_cond _ ref17_parser_level_c7 .skip
def ref17_parser_level_c9 : AC := .seq ref17_parser_level_c6 ref17_parser_level_c8
@[simp] theorem ref17_parser_level_c9_eq {K : AK} {env : Env} {H : AHeap} : aw PP ref17_parser_level_c9 K env H = aw PP ref17_parser_level_c6 (seqK PP ref17_parser_level_c8 K) env H := aw_seq ref17_parser_level_c6 ref17_parser_level_c8
def ref17_parser_level_c10 : AC := .reg [⟨some 12, none, .mov (.t 0)⟩, ⟨some 13, none, .call (.c (.fn (.func 25) [] [])) [.t 12]⟩] [10, 12, 13]
@[simp] theorem ref17_parser_level_c10_eq {K : AK} {env : Env} {H : AHeap} : aw PP ref17_parser_level_c10 K env H = awOps PP [⟨some 12, none, .mov (.t 0)⟩, ⟨some 13, none, .call (.c (.fn (.func 25) [] [])) [.t 12]⟩] (regK K [10, 12, 13]) (panK K) env H := aw_reg _ _
def ref17_parser_level_c11 : AC := .reg [⟨some 14, none, .mov (.t 0)⟩, ⟨some 15, none, .call (.c (.fn (.func 27) [] [])) [.t 14]⟩, ⟨some 16, none, .bsl true 9 1 1 (.str []) [(0, .t 15)]⟩, ⟨some 4, none, .mov (.t 16)⟩] [14, 15, 16]
@[simp] theorem ref17_parser_level_c11_eq {K : AK} {env : Env} {H : AHeap} : aw PP ref17_parser_level_c11 K env H = awOps PP [⟨some 14, none, .mov (.t 0)⟩, ⟨some 15, none, .call (.c (.fn (.func 27) [] [])) [.t 14]⟩, ⟨some 16, none, .bsl true 9 1 1 (.str []) [(0, .t 15)]⟩, ⟨some 4, none, .mov (.t 16)⟩] (regK K [14, 15, 16]) (panK K) env H := aw_reg _ _
def ref17_parser_level_c12 : AC := .reg [⟨some 17, none, .mov (.t 0)⟩, ⟨some 18, none, .call (.c (.fn (.func 30) [] [])) [.t 17]⟩] [17]
@[simp] theorem ref17_parser_level_c12_eq {K : AK} {env : Env} {H : AHeap} : aw PP ref17_parser_level_c12 K env H = awOps PP [⟨some 17, none, .mov (.t 0)⟩, ⟨some 18, none, .call (.c (.fn (.func 30) [] [])) [.t 17]⟩] (regK K [17]) (panK K) env H := aw_reg _ _
def ref17_parser_level_c13 : AC := .cond (.t 18) .skip (.exit 0)
@[simp] theorem ref17_parser_level_c13_eq {K : AK} {env : Env} {H : AHeap} : aw PP ref17_parser_level_c13 K env H = condQ PP (Opd.ev env (.t 18)) .skip (.exit 0) K env H := aw_cond _ .skip (.exit 0)
def ref17_parser_level_c14 : AC := .seq ref17_parser_level_c12 ref17_parser_level_c13
@[simp] theorem ref17_parser_level_c14_eq {K : AK} {env : Env} {H : AHeap} : aw PP ref17_parser_level_c14 K env H = aw PP ref17_parser_level_c12 (seqK PP ref17_parser_level_c13 K) env H := aw_seq ref17_parser_level_c12 ref17_parser_level_c13
def ref17_parser_level_c15 : AC := .reg [⟨some 19, none, .mov (.t 4)⟩, ⟨some 20, none, .mov (.t 0)⟩, ⟨some 21, none, .call (.c (.fn (.func 27) [] [])) [.t 20]⟩, ⟨some 22, none, .bsl false 9 1 1 (.str []) [(0, .t 21)]⟩, ⟨some 23, none, .app 9 1 16 (.t 19) (.t 22)⟩, ⟨some 4, none, .mov (.t 23)⟩] [18, 19, 20, 21, 22, 23]
@[simp] theorem ref17_parser_level_c15_eq {K : AK} {env : Env} {H : AHeap} : aw PP ref17_parser_level_c15 K env H = awOps PP [⟨some 19, none, .mov (.t 4)⟩, ⟨some 20, none, .mov (.t 0)⟩, ⟨some 21, none, .call (.c (.fn (.func 27) [] [])) [.t 20]⟩, ⟨some 22, none, .bsl false 9 1 1 (.str []) [(0, .t 21)]⟩, ⟨some 23, none, .app 9 1 16 (.t 19) (.t 22)⟩, ⟨some 4, none, .mov (.t 23)⟩] (regK K [18, 19, 20, 21, 22, 23]) (panK K) env H := aw_reg _ _
def ref17_parser_level_c16 : AC := .block 1 ref17_parser_level_c15
@[simp] theorem ref17_parser_level_c16_eq {K : AK} {env : Env} {H : AHeap} : aw PP ref17_parser_level_c16 K env H = aw PP ref17_parser_level_c15 (blockK 1 K) env H := aw_block _ ref17_parser_level_c15
def ref17_parser_level_c17 : AC := .seq ref17_parser_level_c14 ref17_parser_level_c16
@[simp] theorem ref17_parser_level_c17_eq {K : AK} {env : Env} {H : AHeap} : aw PP ref17_parser_level_c17 K env H = aw PP ref17_parser_level_c14 (seqK PP ref17_parser_level_c16 K) env H := aw_seq ref17_parser_level_c14 ref17_parser_level_c16
def ref17_parser_level_c18 : AC := .loop ref17_parser_level_c17
def ref17_parser_level_c19 : AC := .block 0 ref17_parser_level_c18
@[simp] theorem ref17_parser_level_c19_eq {K : AK} {env : Env} {H : AHeap} : aw PP ref17_parser_level_c19 K env H = aw PP ref17_parser_level_c18 (blockK 0 K) env H := aw_block _ ref17_parser_level_c18
def ref17_parser_level_c20 : AC := .reg [⟨some 24, none, .mov (.t 0)⟩, ⟨some 25, none, .call (.c (.fn (.func 26) [] [])) [.t 24, .c (.str [59])]⟩] [0, 18, 24, 25]
@[simp] theorem ref17_parser_level_c20_eq {K : AK} {env : Env} {H : AHeap} : aw PP ref17_parser_level_c20 K env H = awOps PP [⟨some 24, none, .mov (.t 0)⟩, ⟨some 25, none, .call (.c (.fn (.func 26) [] [])) [.t 24, .c (.str [59])]⟩] (regK K [0, 18, 24, 25]) (panK K) env H := aw_reg _ _
def ref17_parser_level_c21 : AC := .reg [⟨some 26, none, .mov (.t 4)⟩, ⟨some 27, none, .fa 1 1 (.t 3)⟩, ⟨none, none, .st 1 (.t 27) (.t 26)⟩] [4, 26, 27]
@[simp] theorem ref17_parser_level_c21_eq {K : AK} {env : Env} {H : AHeap} : aw PP ref17_parser_level_c21 K env H = awOps PP [⟨some 26, none, .mov (.t 4)⟩, ⟨some 27, none, .fa 1 1 (.t 3)⟩, ⟨none, none, .st 1 (.t 27) (.t 26)⟩] (regK K [4, 26, 27]) (panK K) env H := aw_reg _ _
def ref17_parser_level_c22 : AC := .reg [⟨some 28, none, .ld true 2 (.t 3)⟩, ⟨none, none, .st 2 (.t 2) (.t 28)⟩] [3, 28]
@[simp] theorem ref17_parser_level_c22_eq {K : AK} {env : Env} {H : AHeap} : aw PP ref17_parser_level_c22 K env H = awOps PP [⟨some 28, none, .ld true 2 (.t 3)⟩, ⟨none, none, .st 2 (.t 2) (.t 28)⟩] (regK K [3, 28]) (panK K) env H := aw_reg _ _
def ref17_parser_level_c23 : AC := .seq ref17_parser_level_c22 .ret
@[simp] theorem ref17_parser_level_c23_eq {K : AK} {env : Env} {H : AHeap} : aw PP ref17_parser_level_c23 K env H = aw PP ref17_parser_level_c22 (seqK PP .ret K) env H := aw_seq ref17_parser_level_c22 .ret
def ref17_parser_level_c24 : AC := .seq ref17_parser_level_c21 ref17_parser_level_c23
@[simp] theorem ref17_parser_level_c24_eq {K : AK} {env : Env} {H : AHeap} : aw PP ref17_parser_level_c24 K env H = aw PP ref17_parser_level_c21 (seqK PP ref17_parser_level_c23 K) env H := aw_seq ref17_parser_level_c21 ref17_parser_level_c23
def ref17_parser_level_c25 : AC := .seq ref17_parser_level_c20 ref17_parser_level_c24
@[simp] theorem ref17_parser_level_c25_eq {K : AK} {env : Env} {H : AHeap} : aw PP ref17_parser_level_c25 K env H = aw PP ref17_parser_level_c20 (seqK PP ref17_parser_level_c24 K) env H := aw_seq ref17_parser_level_c20 ref17_parser_level_c24
def ref17_parser_level_c26 : AC := .seq ref17_parser_level_c19 ref17_parser_level_c25
@[simp] theorem ref17_parser_level_c26_eq {K : AK} {env : Env} {H : AHeap} : aw PP ref17_parser_level_c26 K env H = aw PP ref17_parser_level_c19 (seqK PP ref17_parser_level_c25 K) env H := aw_seq ref17_parser_level_c19 ref17_parser_level_c25
def ref17_parser_level_c27 : AC := .seq ref17_parser_level_c11 ref17_parser_level_c26
@[simp] theorem ref17_parser_level_c27_eq {K : AK} {env : Env} {H : AHeap} : aw PP ref17_parser_level_c27 K env H = aw PP ref17_parser_level_c11 (seqK PP ref17_parser_level_c26 K) env H := aw_seq ref17_parser_level_c11 ref17_parser_level_c26
def ref17_parser_level_c28 : AC := .seq ref17_parser_level_c10 ref17_parser_level_c27
@[simp] theorem ref17_parser_level_c28_eq {K : AK} {env : Env} {H : AHeap} : aw PP ref17_parser_level_c28 K env H = aw PP ref17_parser_level_c10 (seqK PP ref17_parser_level_c27 K) env H := aw_seq ref17_parser_level_c10 ref17_parser_level_c27
def ref17_parser_level_c29 : AC := .seq ref17_parser_level_c9 ref17_parser_level_c28
@[simp] theorem ref17_parser_level_c29_eq {K : AK} {env : Env} {H : AHeap} : aw PP ref17_parser_level_c29 K env H = aw PP ref17_parser_level_c9 (seqK PP ref17_parser_level_c28 K) env H := aw_seq ref17_parser_level_c9 ref17_parser_level_c28
def ref17_parser_level_c30 : AC := .seq ref17_parser_level_c5 ref17_parser_level_c29
@[simp] theorem ref17_parser_level_c30_eq {K : AK} {env : Env} {H : AHeap} : aw PP ref17_parser_level_c30 K env H = aw PP ref17_parser_level_c5 (seqK PP ref17_parser_level_c29 K) env H := aw_seq ref17_parser_level_c5 ref17_parser_level_c29
def ref17_parser_level_c31 : AC := .seq ref17_parser_level_c1 ref17_parser_level_c30
@[simp] theorem ref17_parser_level_c31_eq {K : AK} {env : Env} {H : AHeap} : aw PP ref17_parser_level_c31 K env H = aw PP ref17_parser_level_c1 (seqK PP ref17_parser_level_c30 K) env H := aw_seq ref17_parser_level_c1 ref17_parser_level_c30
def ref17_parser_level_c32 : AC := .seq ref17_parser_level_c0 ref17_parser_level_c31
@[simp] theorem ref17_parser_level_c32_eq {K : AK} {env : Env} {H : AHeap} : aw PP ref17_parser_level_c32 K env H = aw PP ref17_parser_level_c0 (seqK PP ref17_parser_level_c31 K) env H := aw_seq ref17_parser_level_c0 ref17_parser_level_c31
def ref17_parser_level_ac : AC := ref17_parser_level_c32
@[simp] theorem ref17_parser_level_ac_eq {K : AK} {env : Env} {H : AHeap} : aw PP ref17_parser_level_ac K env H = aw PP ref17_parser_level_c32 K env H := Eq.trans rfl rfl
def ref17_parser_level_rs : List ARV := [.cell 2 true 2]
abbrev ref17_parser_level_id : Nat := 29
theorem ref17_parser_level_comp : compF PP ref17_parser_level_kl ref17_parser_level_ow 1 Try.f29 = some (ref17_parser_level_ac, ref17_parser_level_rs) := by kernel_rfl
theorem ref17_parser_level_enter {args : List AV} {H : AHeap} {post : ARes → AHeap → Prop} (ha : args.length = 1) (h : aw PP ref17_parser_level_ac (retK ref17_parser_level_rs post) (argEnv 0 args) H) : ACalls PP ref17_parser_level_id args H post := .enterF Try.func29 PP_mix ref17_parser_level_comp ha h

end Go.Av
