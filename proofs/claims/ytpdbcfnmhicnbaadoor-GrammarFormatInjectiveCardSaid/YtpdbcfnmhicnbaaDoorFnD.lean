/- Functions of the given program, compiled to the own form by program. -/
import Derived.Test.YtpdbcfnmhicnbaaDoorProg
import Derived.KernelRfl
import Derived.Test.YtpdbcfnmhicnbaaDoorAvF
import Derived.Test.YtpdbcfnmhicnbaaDoorFns1
set_option linter.unusedVariables false
set_option linter.unusedSimpArgs false
namespace Go.Av
open Go Go.Proofs
variable {K : AK} {env : Env} {H : AHeap}
/-! strings.Join -/
def strings_Join_kl : Nat → List Nat
  | 0 => [4]
  | 1 => [11]
  | 2 => [14]
  | 3 => [0, 1, 12, 13]
  | 4 => [12, 13, 16]
  | 5 => [0, 1, 15, 17, 18, 19]
  | 6 => [15]
  | 7 => [20, 21]
  | 8 => [22, 23, 24, 25, 26, 27, 28]
  | 9 => [29, 30]
  | 10 => [29, 31, 32, 33, 34, 35, 36, 37, 38]
  | 11 => [22]
  | 13 => [42, 43, 44]
  | 14 => [45, 46, 47, 48]
  | 15 => [49, 50]
  | 16 => [7, 49, 51, 52, 53, 54]
  | 17 => [55]
  | 18 => [39, 40, 41, 42]
  | 19 => [5, 56, 57]
  | 20 => [58, 59, 60, 61]
  | 21 => [0, 62]
  | 23 => [66, 67, 68]
  | 24 => [69, 70]
  | 25 => [10, 71, 72]
  | 26 => [73]
  | 27 => [1, 8, 63, 64, 65, 66, 74]
  | _ => []
def strings_Join_ow : Nat → Nat → Bool := fun a b => (a == 18 && b == 0)
def strings_Join_c0 : AC := .reg [⟨some 4, none, .mov (.c (.str []))⟩] [4]
@[simp] theorem strings_Join_c0_eq : aw PP strings_Join_c0 K env H = awOps PP [⟨some 4, none, .mov (.c (.str []))⟩] (regK K [4]) (panK K) env H := aw_reg _ _
def strings_Join_c1 : AC := .reg [⟨some 11, none, .mov (.t 0)⟩, ⟨some 12, none, .lenl (.t 11)⟩] [11]
@[simp] theorem strings_Join_c1_eq : aw PP strings_Join_c1 K env H = awOps PP [⟨some 11, none, .mov (.t 0)⟩, ⟨some 12, none, .lenl (.t 11)⟩] (regK K [11]) (panK K) env H := aw_reg _ _
def strings_Join_c2 : AC := .reg [⟨some 14, none, .bin (.eql) (.t 12) (.c (.int (.i64) 0))⟩, ⟨some 13, none, .mov (.t 14)⟩] [14]
@[simp] theorem strings_Join_c2_eq : aw PP strings_Join_c2 K env H = awOps PP [⟨some 14, none, .bin (.eql) (.t 12) (.c (.int (.i64) 0))⟩, ⟨some 13, none, .mov (.t 14)⟩] (regK K [14]) (panK K) env H := aw_reg _ _
def strings_Join_c3 : AC := .reg [⟨some 4, none, .mov (.c (.str []))⟩] [0, 1, 12, 13]
@[simp] theorem strings_Join_c3_eq : aw PP strings_Join_c3 K env H = awOps PP [⟨some 4, none, .mov (.c (.str []))⟩] (regK K [0, 1, 12, 13]) (panK K) env H := aw_reg _ _
def strings_Join_c4 : AC := .seq strings_Join_c3 .ret
@[simp] theorem strings_Join_c4_eq : aw PP strings_Join_c4 K env H = aw PP strings_Join_c3 (seqK PP .ret K) env H := aw_seq strings_Join_c3 .ret
def strings_Join_c5 : AC := .reg [⟨some 16, none, .bin (.eql) (.t 12) (.c (.int (.i64) 1))⟩, ⟨some 15, none, .mov (.t 16)⟩] [12, 13, 16]
@[simp] theorem strings_Join_c5_eq : aw PP strings_Join_c5 K env H = awOps PP [⟨some 16, none, .bin (.eql) (.t 12) (.c (.int (.i64) 1))⟩, ⟨some 15, none, .mov (.t 16)⟩] (regK K [12, 13, 16]) (panK K) env H := aw_reg _ _
def strings_Join_c6 : AC := .reg [⟨some 17, none, .mov (.t 0)⟩, ⟨some 18, none, .ixa 1 (.t 17) (.c (.int (.i64) 0))⟩, ⟨some 19, none, .ld false 1 (.t 18)⟩, ⟨some 4, none, .mov (.t 19)⟩] [0, 1, 15, 17, 18, 19]
@[simp] theorem strings_Join_c6_eq : aw PP strings_Join_c6 K env H = awOps PP [⟨some 17, none, .mov (.t 0)⟩, ⟨some 18, none, .ixa 1 (.t 17) (.c (.int (.i64) 0))⟩, ⟨some 19, none, .ld false 1 (.t 18)⟩, ⟨some 4, none, .mov (.t 19)⟩] (regK K [0, 1, 15, 17, 18, 19]) (panK K) env H := aw_reg _ _
def strings_Join_c7 : AC := .seq strings_Join_c6 .ret
@[simp] theorem strings_Join_c7_eq : aw PP strings_Join_c7 K env H = aw PP strings_Join_c6 (seqK PP .ret K) env H := aw_seq strings_Join_c6 .ret
def strings_Join_c8 : AC := .cond (.t 15) strings_Join_c7 .skip
@[simp] theorem strings_Join_c8_eq : aw PP strings_Join_c8 K env H = condQ PP (Opd.ev env (.t 15)) strings_Join_c7 .skip K env H := aw_cond _ strings_Join_c7 .skip
def strings_Join_c9 : AC := .seq strings_Join_c5 strings_Join_c8
@[simp] theorem strings_Join_c9_eq : aw PP strings_Join_c9 K env H = aw PP strings_Join_c5 (seqK PP strings_Join_c8 K) env H := aw_seq strings_Join_c5 strings_Join_c8
def strings_Join_c10 : AC := .cond (.t 13) strings_Join_c4 strings_Join_c9
@[simp] theorem strings_Join_c10_eq : aw PP strings_Join_c10 K env H = condQ PP (Opd.ev env (.t 13)) strings_Join_c4 strings_Join_c9 K env H := aw_cond _ strings_Join_c4 strings_Join_c9
def strings_Join_c11 : AC := .seq strings_Join_c2 strings_Join_c10
@[simp] theorem strings_Join_c11_eq : aw PP strings_Join_c11 K env H = aw PP strings_Join_c2 (seqK PP strings_Join_c10 K) env H := aw_seq strings_Join_c2 strings_Join_c10
def strings_Join_c12 : AC := .block 0 strings_Join_c11
@[simp] theorem strings_Join_c12_eq : aw PP strings_Join_c12 K env H = aw PP strings_Join_c11 (blockK 0 K) env H := aw_block _ strings_Join_c11
def strings_Join_c13 : AC := .seq strings_Join_c1 strings_Join_c12
@[simp] theorem strings_Join_c13_eq : aw PP strings_Join_c13 K env H = aw PP strings_Join_c1 (seqK PP strings_Join_c12 K) env H := aw_seq strings_Join_c1 strings_Join_c12
def strings_Join_c14 : AC := .reg [⟨some 5, none, .mov (.c (.int (.i64) 0))⟩] [15]
@[simp] theorem strings_Join_c14_eq : aw PP strings_Join_c14 K env H = awOps PP [⟨some 5, none, .mov (.c (.int (.i64) 0))⟩] (regK K [15]) (panK K) env H := aw_reg _ _
def strings_Join_c15 : AC := .reg [⟨some 20, none, .mov (.t 1)⟩, ⟨some 21, none, .lens (.t 20)⟩, ⟨some 22, none, .bin (.gtr) (.t 21) (.c (.int (.i64) 0))⟩] [20, 21]
@[simp] theorem strings_Join_c15_eq : aw PP strings_Join_c15 K env H = awOps PP [⟨some 20, none, .mov (.t 1)⟩, ⟨some 21, none, .lens (.t 20)⟩, ⟨some 22, none, .bin (.gtr) (.t 21) (.c (.int (.i64) 0))⟩] (regK K [20, 21]) (panK K) env H := aw_reg _ _
def strings_Join_c16 : AC := .reg [⟨some 23, none, .mov (.t 1)⟩, ⟨some 24, none, .lens (.t 23)⟩, ⟨some 25, none, .mov (.t 0)⟩, ⟨some 26, none, .lenl (.t 25)⟩, ⟨some 27, none, .bin (.sub) (.t 26) (.c (.int (.i64) 1))⟩, ⟨some 28, none, .bin (.quo) (.c (.int (.i64) 9223372036854775807)) (.t 27)⟩, ⟨some 29, none, .bin (.geq) (.t 24) (.t 28)⟩] [22, 23, 24, 25, 26, 27, 28]
@[simp] theorem strings_Join_c16_eq : aw PP strings_Join_c16 K env H = awOps PP [⟨some 23, none, .mov (.t 1)⟩, ⟨some 24, none, .lens (.t 23)⟩, ⟨some 25, none, .mov (.t 0)⟩, ⟨some 26, none, .lenl (.t 25)⟩, ⟨some 27, none, .bin (.sub) (.t 26) (.c (.int (.i64) 1))⟩, ⟨some 28, none, .bin (.quo) (.c (.int (.i64) 9223372036854775807)) (.t 27)⟩, ⟨some 29, none, .bin (.geq) (.t 24) (.t 28)⟩] (regK K [22, 23, 24, 25, 26, 27, 28]) (panK K) env H := aw_reg _ _
def strings_Join_c17 : AC := .reg [⟨some 30, none, .mkif 9 (.c (.str [115, 116, 114, 105, 110, 103, 115, 58, 32, 74, 111, 105, 110, 32, 111, 117, 116, 112, 117, 116, 32, 108, 101, 110, 103, 116, 104, 32, 111, 118, 101, 114, 102, 108, 111, 119]))⟩, ⟨none, none, .pan (.t 30)⟩] [29, 30]
@[simp] theorem strings_Join_c17_eq : aw PP strings_Join_c17 K env H = awOps PP [⟨some 30, none, .mkif 9 (.c (.str [115, 116, 114, 105, 110, 103, 115, 58, 32, 74, 111, 105, 110, 32, 111, 117, 116, 112, 117, 116, 32, 108, 101, 110, 103, 116, 104, 32, 111, 118, 101, 114, 102, 108, 111, 119]))⟩, ⟨none, none, .pan (.t 30)⟩] (regK K [29, 30]) (panK K) env H := aw_reg _ _
def strings_Join_c18 : AC := .cond (.t 29) strings_Join_c17 .skip
@[simp] theorem strings_Join_c18_eq : aw PP strings_Join_c18 K env H = condQ PP (Opd.ev env (.t 29)) strings_Join_c17 .skip K env H := aw_cond _ strings_Join_c17 .skip
def strings_Join_c19 : AC := .seq strings_Join_c16 strings_Join_c18
@[simp] theorem strings_Join_c19_eq : aw PP strings_Join_c19 K env H = aw PP strings_Join_c16 (seqK PP strings_Join_c18 K) env H := aw_seq strings_Join_c16 strings_Join_c18
def strings_Join_c20 : AC := .reg [⟨some 31, none, .mov (.t 5)⟩, ⟨some 32, none, .mov (.t 1)⟩, ⟨some 33, none, .lens (.t 32)⟩, ⟨some 34, none, .mov (.t 0)⟩, ⟨some 35, none, .lenl (.t 34)⟩, ⟨some 36, none, .bin (.sub) (.t 35) (.c (.int (.i64) 1))⟩, ⟨some 37, none, .bin (.mul) (.t 33) (.t 36)⟩, ⟨some 38, none, .bin (.add) (.t 31) (.t 37)⟩, ⟨some 5, none, .mov (.t 38)⟩] [29, 31, 32, 33, 34, 35, 36, 37, 38]
@[simp] theorem strings_Join_c20_eq : aw PP strings_Join_c20 K env H = awOps PP [⟨some 31, none, .mov (.t 5)⟩, ⟨some 32, none, .mov (.t 1)⟩, ⟨some 33, none, .lens (.t 32)⟩, ⟨some 34, none, .mov (.t 0)⟩, ⟨some 35, none, .lenl (.t 34)⟩, ⟨some 36, none, .bin (.sub) (.t 35) (.c (.int (.i64) 1))⟩, ⟨some 37, none, .bin (.mul) (.t 33) (.t 36)⟩, ⟨some 38, none, .bin (.add) (.t 31) (.t 37)⟩, ⟨some 5, none, .mov (.t 38)⟩] (regK K [29, 31, 32, 33, 34, 35, 36, 37, 38]) (panK K) env H := aw_reg _ _
def strings_Join_c21 : AC := .seq strings_Join_c19 strings_Join_c20
@[simp] theorem strings_Join_c21_eq : aw PP strings_Join_c21 K env H = aw PP strings_Join_c19 (seqK PP strings_Join_c20 K) env H := aw_seq strings_Join_c19 strings_Join_c20
def strings_Join_c22 : AC := .cond (.t 22) strings_Join_c21 .skip
@[simp] theorem strings_Join_c22_eq : aw PP strings_Join_c22 K env H = condQ PP (Opd.ev env (.t 22)) strings_Join_c21 .skip K env H := aw_cond _ strings_Join_c21 .skip
def strings_Join_c23 : AC := .seq strings_Join_c15 strings_Join_c22
@[simp] theorem strings_Join_c23_eq : aw PP strings_Join_c23 K env H = aw PP strings_Join_c15 (seqK PP strings_Join_c22 K) env H := aw_seq strings_Join_c15 strings_Join_c22
def strings_Join_c24 : AC := .reg [⟨some 39, none, .mov (.t 0)⟩, ⟨some 40, none, .lenl (.t 39)⟩, ⟨some 41, none, .mov (.c (.int (.i64) 0))⟩] [22]
@[simp] theorem strings_Join_c24_eq : aw PP strings_Join_c24 K env H = awOps PP [⟨some 39, none, .mov (.t 0)⟩, ⟨some 40, none, .lenl (.t 39)⟩, ⟨some 41, none, .mov (.c (.int (.i64) 0))⟩] (regK K [22]) (panK K) env H := aw_reg _ _
def strings_Join_c25 : AC := .reg [⟨some 42, none, .bin (.lss) (.t 41) (.t 40)⟩] []
@[simp] theorem strings_Join_c25_eq : aw PP strings_Join_c25 K env H = awOps PP [⟨some 42, none, .bin (.lss) (.t 41) (.t 40)⟩] (regK K []) (panK K) env H := aw_reg _ _
def strings_Join_c26 : AC := .cond (.t 42) .skip (.exit 1)
@[simp] theorem strings_Join_c26_eq : aw PP strings_Join_c26 K env H = condQ PP (Opd.ev env (.t 42)) .skip (.exit 1) K env H := aw_cond _ .skip (.exit 1)
def strings_Join_c27 : AC := .reg [⟨some 43, none, .ixa 1 (.t 39) (.t 41)⟩, ⟨some 44, none, .ld false 1 (.t 43)⟩, ⟨some 7, none, .mov (.t 44)⟩] [42, 43, 44]
@[simp] theorem strings_Join_c27_eq : aw PP strings_Join_c27 K env H = awOps PP [⟨some 43, none, .ixa 1 (.t 39) (.t 41)⟩, ⟨some 44, none, .ld false 1 (.t 43)⟩, ⟨some 7, none, .mov (.t 44)⟩] (regK K [42, 43, 44]) (panK K) env H := aw_reg _ _
def strings_Join_c28 : AC := .reg [⟨some 45, none, .mov (.t 7)⟩, ⟨some 46, none, .lens (.t 45)⟩, ⟨some 47, none, .mov (.t 5)⟩, ⟨some 48, none, .bin (.sub) (.c (.int (.i64) 9223372036854775807)) (.t 47)⟩, ⟨some 49, none, .bin (.gtr) (.t 46) (.t 48)⟩] [45, 46, 47, 48]
@[simp] theorem strings_Join_c28_eq : aw PP strings_Join_c28 K env H = awOps PP [⟨some 45, none, .mov (.t 7)⟩, ⟨some 46, none, .lens (.t 45)⟩, ⟨some 47, none, .mov (.t 5)⟩, ⟨some 48, none, .bin (.sub) (.c (.int (.i64) 9223372036854775807)) (.t 47)⟩, ⟨some 49, none, .bin (.gtr) (.t 46) (.t 48)⟩] (regK K [45, 46, 47, 48]) (panK K) env H := aw_reg _ _
def strings_Join_c29 : AC := .reg [⟨some 50, none, .mkif 9 (.c (.str [115, 116, 114, 105, 110, 103, 115, 58, 32, 74, 111, 105, 110, 32, 111, 117, 116, 112, 117, 116, 32, 108, 101, 110, 103, 116, 104, 32, 111, 118, 101, 114, 102, 108, 111, 119]))⟩, ⟨none, none, .pan (.t 50)⟩] [49, 50]
@[simp] theorem strings_Join_c29_eq : aw PP strings_Join_c29 K env H = awOps PP [⟨some 50, none, .mkif 9 (.c (.str [115, 116, 114, 105, 110, 103, 115, 58, 32, 74, 111, 105, 110, 32, 111, 117, 116, 112, 117, 116, 32, 108, 101, 110, 103, 116, 104, 32, 111, 118, 101, 114, 102, 108, 111, 119]))⟩, ⟨none, none, .pan (.t 50)⟩] (regK K [49, 50]) (panK K) env H := aw_reg _ _
def strings_Join_c30 : AC := .cond (.t 49) strings_Join_c29 .skip
@[simp] theorem strings_Join_c30_eq : aw PP strings_Join_c30 K env H = condQ PP (Opd.ev env (.t 49)) strings_Join_c29 .skip K env H := aw_cond _ strings_Join_c29 .skip
def strings_Join_c31 : AC := .seq strings_Join_c28 strings_Join_c30
@[simp] theorem strings_Join_c31_eq : aw PP strings_Join_c31 K env H = aw PP strings_Join_c28 (seqK PP strings_Join_c30 K) env H := aw_seq strings_Join_c28 strings_Join_c30
def strings_Join_c32 : AC := .reg [⟨some 51, none, .mov (.t 5)⟩, ⟨some 52, none, .mov (.t 7)⟩, ⟨some 53, none, .lens (.t 52)⟩, ⟨some 54, none, .bin (.add) (.t 51) (.t 53)⟩, ⟨some 5, none, .mov (.t 54)⟩] [7, 49, 51, 52, 53, 54]
@[simp] theorem strings_Join_c32_eq : aw PP strings_Join_c32 K env H = awOps PP [⟨some 51, none, .mov (.t 5)⟩, ⟨some 52, none, .mov (.t 7)⟩, ⟨some 53, none, .lens (.t 52)⟩, ⟨some 54, none, .bin (.add) (.t 51) (.t 53)⟩, ⟨some 5, none, .mov (.t 54)⟩] (regK K [7, 49, 51, 52, 53, 54]) (panK K) env H := aw_reg _ _
def strings_Join_c33 : AC := .seq strings_Join_c31 strings_Join_c32
@[simp] theorem strings_Join_c33_eq : aw PP strings_Join_c33 K env H = aw PP strings_Join_c31 (seqK PP strings_Join_c32 K) env H := aw_seq strings_Join_c31 strings_Join_c32
def strings_Join_c34 : AC := .seq strings_Join_c27 strings_Join_c33
@[simp] theorem strings_Join_c34_eq : aw PP strings_Join_c34 K env H = aw PP strings_Join_c27 (seqK PP strings_Join_c33 K) env H := aw_seq strings_Join_c27 strings_Join_c33
def strings_Join_c35 : AC := .block 2 strings_Join_c34
@[simp] theorem strings_Join_c35_eq : aw PP strings_Join_c35 K env H = aw PP strings_Join_c34 (blockK 2 K) env H := aw_block _ strings_Join_c34
def strings_Join_c36 : AC := .reg [⟨some 55, none, .bin (.add) (.t 41) (.c (.int (.i64) 1))⟩, ⟨some 41, none, .mov (.t 55)⟩] [55]
@[simp] theorem strings_Join_c36_eq : aw PP strings_Join_c36 K env H = awOps PP [⟨some 55, none, .bin (.add) (.t 41) (.c (.int (.i64) 1))⟩, ⟨some 41, none, .mov (.t 55)⟩] (regK K [55]) (panK K) env H := aw_reg _ _
def strings_Join_c37 : AC := .seq strings_Join_c35 strings_Join_c36
@[simp] theorem strings_Join_c37_eq : aw PP strings_Join_c37 K env H = aw PP strings_Join_c35 (seqK PP strings_Join_c36 K) env H := aw_seq strings_Join_c35 strings_Join_c36
def strings_Join_c38 : AC := .seq strings_Join_c26 strings_Join_c37
@[simp] theorem strings_Join_c38_eq : aw PP strings_Join_c38 K env H = aw PP strings_Join_c26 (seqK PP strings_Join_c37 K) env H := aw_seq strings_Join_c26 strings_Join_c37
def strings_Join_c39 : AC := .seq strings_Join_c25 strings_Join_c38
@[simp] theorem strings_Join_c39_eq : aw PP strings_Join_c39 K env H = aw PP strings_Join_c25 (seqK PP strings_Join_c38 K) env H := aw_seq strings_Join_c25 strings_Join_c38
def strings_Join_c40 : AC := .loop strings_Join_c39
def strings_Join_c41 : AC := .block 1 strings_Join_c40
@[simp] theorem strings_Join_c41_eq : aw PP strings_Join_c41 K env H = aw PP strings_Join_c40 (blockK 1 K) env H := aw_block _ strings_Join_c40
def strings_Join_c42 : AC := .seq strings_Join_c24 strings_Join_c41
@[simp] theorem strings_Join_c42_eq : aw PP strings_Join_c42 K env H = aw PP strings_Join_c24 (seqK PP strings_Join_c41 K) env H := aw_seq strings_Join_c24 strings_Join_c41
def strings_Join_c43 : AC := .reg [⟨some 8, none, .allb 48 5⟩] [39, 40, 41, 42]
@[simp] theorem strings_Join_c43_eq : aw PP strings_Join_c43 K env H = awOps PP [⟨some 8, none, .allb 48 5⟩] (regK K [39, 40, 41, 42]) (panK K) env H := aw_reg _ _
def strings_Join_c44 : AC := .reg [⟨some 56, none, .mov (.t 5)⟩, ⟨some 57, none, .call (.c (.fn (.func 43) [] [])) [.t 8, .t 56]⟩] [5, 56, 57]
@[simp] theorem strings_Join_c44_eq : aw PP strings_Join_c44 K env H = awOps PP [⟨some 56, none, .mov (.t 5)⟩, ⟨some 57, none, .call (.c (.fn (.func 43) [] [])) [.t 8, .t 56]⟩] (regK K [5, 56, 57]) (panK K) env H := aw_reg _ _
def strings_Join_c45 : AC := .reg [⟨some 58, none, .mov (.t 0)⟩, ⟨some 59, none, .ixa 1 (.t 58) (.c (.int (.i64) 0))⟩, ⟨some 60, none, .ld false 1 (.t 59)⟩, ⟨some 61, none, .call (.c (.fn (.func 32) [] [])) [.t 8, .t 60]⟩] [58, 59, 60, 61]
@[simp] theorem strings_Join_c45_eq : aw PP strings_Join_c45 K env H = awOps PP [⟨some 58, none, .mov (.t 0)⟩, ⟨some 59, none, .ixa 1 (.t 58) (.c (.int (.i64) 0))⟩, ⟨some 60, none, .ld false 1 (.t 59)⟩, ⟨some 61, none, .call (.c (.fn (.func 32) [] [])) [.t 8, .t 60]⟩] (regK K [58, 59, 60, 61]) (panK K) env H := aw_reg _ _
def strings_Join_c46 : AC := .reg [⟨some 62, none, .mov (.t 0)⟩, ⟨some 63, none, .sll 1 (.t 62) (some (.c (.int (.i64) 1))) none⟩, ⟨some 64, none, .lenl (.t 63)⟩, ⟨some 65, none, .mov (.c (.int (.i64) 0))⟩] [0, 62]
@[simp] theorem strings_Join_c46_eq : aw PP strings_Join_c46 K env H = awOps PP [⟨some 62, none, .mov (.t 0)⟩, ⟨some 63, none, .sll 1 (.t 62) (some (.c (.int (.i64) 1))) none⟩, ⟨some 64, none, .lenl (.t 63)⟩, ⟨some 65, none, .mov (.c (.int (.i64) 0))⟩] (regK K [0, 62]) (panK K) env H := aw_reg _ _
def strings_Join_c47 : AC := .reg [⟨some 66, none, .bin (.lss) (.t 65) (.t 64)⟩] []
@[simp] theorem strings_Join_c47_eq : aw PP strings_Join_c47 K env H = awOps PP [⟨some 66, none, .bin (.lss) (.t 65) (.t 64)⟩] (regK K []) (panK K) env H := aw_reg _ _
def strings_Join_c48 : AC := .cond (.t 66) .skip (.exit 3)
@[simp] theorem strings_Join_c48_eq : aw PP strings_Join_c48 K env H = condQ PP (Opd.ev env (.t 66)) .skip (.exit 3) K env H := aw_cond _ .skip (.exit 3)
def strings_Join_c49 : AC := .reg [⟨some 67, none, .ixa 1 (.t 63) (.t 65)⟩, ⟨some 68, none, .ld false 1 (.t 67)⟩, ⟨some 10, none, .mov (.t 68)⟩] [66, 67, 68]
@[simp] theorem strings_Join_c49_eq : aw PP strings_Join_c49 K env H = awOps PP [⟨some 67, none, .ixa 1 (.t 63) (.t 65)⟩, ⟨some 68, none, .ld false 1 (.t 67)⟩, ⟨some 10, none, .mov (.t 68)⟩] (regK K [66, 67, 68]) (panK K) env H := aw_reg _ _
def strings_Join_c50 : AC := .reg [⟨some 69, none, .mov (.t 1)⟩, ⟨some 70, none, .call (.c (.fn (.func 32) [] [])) [.t 8, .t 69]⟩] [69, 70]
@[simp] theorem strings_Join_c50_eq : aw PP strings_Join_c50 K env H = awOps PP [⟨some 69, none, .mov (.t 1)⟩, ⟨some 70, none, .call (.c (.fn (.func 32) [] [])) [.t 8, .t 69]⟩] (regK K [69, 70]) (panK K) env H := aw_reg _ _
def strings_Join_c51 : AC := .reg [⟨some 71, none, .mov (.t 10)⟩, ⟨some 72, none, .call (.c (.fn (.func 32) [] [])) [.t 8, .t 71]⟩] [10, 71, 72]
@[simp] theorem strings_Join_c51_eq : aw PP strings_Join_c51 K env H = awOps PP [⟨some 71, none, .mov (.t 10)⟩, ⟨some 72, none, .call (.c (.fn (.func 32) [] [])) [.t 8, .t 71]⟩] (regK K [10, 71, 72]) (panK K) env H := aw_reg _ _
def strings_Join_c52 : AC := .seq strings_Join_c50 strings_Join_c51
@[simp] theorem strings_Join_c52_eq : aw PP strings_Join_c52 K env H = aw PP strings_Join_c50 (seqK PP strings_Join_c51 K) env H := aw_seq strings_Join_c50 strings_Join_c51
def strings_Join_c53 : AC := .seq strings_Join_c49 strings_Join_c52
@[simp] theorem strings_Join_c53_eq : aw PP strings_Join_c53 K env H = aw PP strings_Join_c49 (seqK PP strings_Join_c52 K) env H := aw_seq strings_Join_c49 strings_Join_c52
def strings_Join_c54 : AC := .block 4 strings_Join_c53
@[simp] theorem strings_Join_c54_eq : aw PP strings_Join_c54 K env H = aw PP strings_Join_c53 (blockK 4 K) env H := aw_block _ strings_Join_c53
def strings_Join_c55 : AC := .reg [⟨some 73, none, .bin (.add) (.t 65) (.c (.int (.i64) 1))⟩, ⟨some 65, none, .mov (.t 73)⟩] [73]
@[simp] theorem strings_Join_c55_eq : aw PP strings_Join_c55 K env H = awOps PP [⟨some 73, none, .bin (.add) (.t 65) (.c (.int (.i64) 1))⟩, ⟨some 65, none, .mov (.t 73)⟩] (regK K [73]) (panK K) env H := aw_reg _ _
def strings_Join_c56 : AC := .seq strings_Join_c54 strings_Join_c55
@[simp] theorem strings_Join_c56_eq : aw PP strings_Join_c56 K env H = aw PP strings_Join_c54 (seqK PP strings_Join_c55 K) env H := aw_seq strings_Join_c54 strings_Join_c55
def strings_Join_c57 : AC := .seq strings_Join_c48 strings_Join_c56
@[simp] theorem strings_Join_c57_eq : aw PP strings_Join_c57 K env H = aw PP strings_Join_c48 (seqK PP strings_Join_c56 K) env H := aw_seq strings_Join_c48 strings_Join_c56
def strings_Join_c58 : AC := .seq strings_Join_c47 strings_Join_c57
@[simp] theorem strings_Join_c58_eq : aw PP strings_Join_c58 K env H = aw PP strings_Join_c47 (seqK PP strings_Join_c57 K) env H := aw_seq strings_Join_c47 strings_Join_c57
def strings_Join_c59 : AC := .loop strings_Join_c58
def strings_Join_c60 : AC := .block 3 strings_Join_c59
@[simp] theorem strings_Join_c60_eq : aw PP strings_Join_c60 K env H = aw PP strings_Join_c59 (blockK 3 K) env H := aw_block _ strings_Join_c59
def strings_Join_c61 : AC := .seq strings_Join_c46 strings_Join_c60
@[simp] theorem strings_Join_c61_eq : aw PP strings_Join_c61 K env H = aw PP strings_Join_c46 (seqK PP strings_Join_c60 K) env H := aw_seq strings_Join_c46 strings_Join_c60
def strings_Join_c62 : AC := .reg [⟨some 74, none, .call (.c (.fn (.func 36) [] [])) [.t 8]⟩, ⟨some 4, none, .mov (.t 74)⟩] [1, 8, 63, 64, 65, 66, 74]
@[simp] theorem strings_Join_c62_eq : aw PP strings_Join_c62 K env H = awOps PP [⟨some 74, none, .call (.c (.fn (.func 36) [] [])) [.t 8]⟩, ⟨some 4, none, .mov (.t 74)⟩] (regK K [1, 8, 63, 64, 65, 66, 74]) (panK K) env H := aw_reg _ _
def strings_Join_c63 : AC := .seq strings_Join_c62 .ret
@[simp] theorem strings_Join_c63_eq : aw PP strings_Join_c63 K env H = aw PP strings_Join_c62 (seqK PP .ret K) env H := aw_seq strings_Join_c62 .ret
def strings_Join_c64 : AC := .seq strings_Join_c61 strings_Join_c63
@[simp] theorem strings_Join_c64_eq : aw PP strings_Join_c64 K env H = aw PP strings_Join_c61 (seqK PP strings_Join_c63 K) env H := aw_seq strings_Join_c61 strings_Join_c63
def strings_Join_c65 : AC := .seq strings_Join_c45 strings_Join_c64
@[simp] theorem strings_Join_c65_eq : aw PP strings_Join_c65 K env H = aw PP strings_Join_c45 (seqK PP strings_Join_c64 K) env H := aw_seq strings_Join_c45 strings_Join_c64
def strings_Join_c66 : AC := .seq strings_Join_c44 strings_Join_c65
@[simp] theorem strings_Join_c66_eq : aw PP strings_Join_c66 K env H = aw PP strings_Join_c44 (seqK PP strings_Join_c65 K) env H := aw_seq strings_Join_c44 strings_Join_c65
def strings_Join_c67 : AC := .seq strings_Join_c43 strings_Join_c66
@[simp] theorem strings_Join_c67_eq : aw PP strings_Join_c67 K env H = aw PP strings_Join_c43 (seqK PP strings_Join_c66 K) env H := aw_seq strings_Join_c43 strings_Join_c66
def strings_Join_c68 : AC := .seq strings_Join_c42 strings_Join_c67
@[simp] theorem strings_Join_c68_eq : aw PP strings_Join_c68 K env H = aw PP strings_Join_c42 (seqK PP strings_Join_c67 K) env H := aw_seq strings_Join_c42 strings_Join_c67
def strings_Join_c69 : AC := .seq strings_Join_c23 strings_Join_c68
@[simp] theorem strings_Join_c69_eq : aw PP strings_Join_c69 K env H = aw PP strings_Join_c23 (seqK PP strings_Join_c68 K) env H := aw_seq strings_Join_c23 strings_Join_c68
def strings_Join_c70 : AC := .seq strings_Join_c14 strings_Join_c69
@[simp] theorem strings_Join_c70_eq : aw PP strings_Join_c70 K env H = aw PP strings_Join_c14 (seqK PP strings_Join_c69 K) env H := aw_seq strings_Join_c14 strings_Join_c69
def strings_Join_c71 : AC := .seq strings_Join_c13 strings_Join_c70
@[simp] theorem strings_Join_c71_eq : aw PP strings_Join_c71 K env H = aw PP strings_Join_c13 (seqK PP strings_Join_c70 K) env H := aw_seq strings_Join_c13 strings_Join_c70
def strings_Join_c72 : AC := .seq strings_Join_c0 strings_Join_c71
@[simp] theorem strings_Join_c72_eq : aw PP strings_Join_c72 K env H = aw PP strings_Join_c0 (seqK PP strings_Join_c71 K) env H := aw_seq strings_Join_c0 strings_Join_c71
def strings_Join_ac : AC := strings_Join_c72
@[simp] theorem strings_Join_ac_eq : aw PP strings_Join_ac K env H = aw PP strings_Join_c72 K env H := Eq.trans rfl rfl
def strings_Join_rs : List ARV := [.tmp 4]
abbrev strings_Join_id : Nat := 33
theorem strings_Join_comp : compF PP strings_Join_kl strings_Join_ow 2 Tryd.f33 = some (strings_Join_ac, strings_Join_rs) := by kernel_rfl
theorem strings_Join_enter {args : List AV} {H : AHeap} {post : ARes → AHeap → Prop} (ha : args.length = 2) (h : aw PP strings_Join_ac (retK strings_Join_rs post) (argEnv 0 args) H) : ACalls PP strings_Join_id args H post := .enterF Tryd.func33 PP_mix strings_Join_comp ha h

/-! emendate.grammar.symbol -/
def grammar_symbol_kl : Nat → List Nat
  | 0 => [0, 4]
  | 1 => [5]
  | 2 => [1, 2, 6, 7, 8, 9, 10, 11]
  | 3 => [1, 2, 6, 12, 13, 14, 15, 16, 17]
  | _ => []
def grammar_symbol_ow : Nat → Nat → Bool := fun _ _ => false
def grammar_symbol_c0 : AC := .reg [⟨some 2, none, .box (.t 0) 4 25⟩, ⟨some 4, none, .mov (.c (.str []))⟩] [0, 4]
@[simp] theorem grammar_symbol_c0_eq : aw PP grammar_symbol_c0 K env H = awOps PP [⟨some 2, none, .box (.t 0) 4 25⟩, ⟨some 4, none, .mov (.c (.str []))⟩] (regK K [0, 4]) (panK K) env H := aw_reg _ _
def grammar_symbol_c1 : AC := .reg [⟨some 5, none, .mov (.t 1)⟩, ⟨some 6, none, .bin (.geq) (.t 5) (.c (.int (.i64) 0))⟩] [5]
@[simp] theorem grammar_symbol_c1_eq : aw PP grammar_symbol_c1 K env H = awOps PP [⟨some 5, none, .mov (.t 1)⟩, ⟨some 6, none, .bin (.geq) (.t 5) (.c (.int (.i64) 0))⟩] (regK K [5]) (panK K) env H := aw_reg _ _
def grammar_symbol_c2 : AC := .reg [⟨some 7, none, .fa 0 0 (.t 2)⟩, ⟨some 8, none, .ld false 1 (.t 7)⟩, ⟨some 9, none, .mov (.t 1)⟩, ⟨some 10, none, .ixa 1 (.t 8) (.t 9)⟩, ⟨some 11, none, .ld false 1 (.t 10)⟩, ⟨some 4, none, .mov (.t 11)⟩] [1, 2, 6, 7, 8, 9, 10, 11]
@[simp] theorem grammar_symbol_c2_eq : aw PP grammar_symbol_c2 K env H = awOps PP [⟨some 7, none, .fa 0 0 (.t 2)⟩, ⟨some 8, none, .ld false 1 (.t 7)⟩, ⟨some 9, none, .mov (.t 1)⟩, ⟨some 10, none, .ixa 1 (.t 8) (.t 9)⟩, ⟨some 11, none, .ld false 1 (.t 10)⟩, ⟨some 4, none, .mov (.t 11)⟩] (regK K [1, 2, 6, 7, 8, 9, 10, 11]) (panK K) env H := aw_reg _ _
def grammar_symbol_c3 : AC := .seq grammar_symbol_c2 .ret
@[simp] theorem grammar_symbol_c3_eq : aw PP grammar_symbol_c3 K env H = aw PP grammar_symbol_c2 (seqK PP .ret K) env H := aw_seq grammar_symbol_c2 .ret
def grammar_symbol_c4 : AC := .cond (.t 6) grammar_symbol_c3 .skip
@[simp] theorem grammar_symbol_c4_eq : aw PP grammar_symbol_c4 K env H = condQ PP (Opd.ev env (.t 6)) grammar_symbol_c3 .skip K env H := aw_cond _ grammar_symbol_c3 .skip
def grammar_symbol_c5 : AC := .seq grammar_symbol_c1 grammar_symbol_c4
@[simp] theorem grammar_symbol_c5_eq : aw PP grammar_symbol_c5 K env H = aw PP grammar_symbol_c1 (seqK PP grammar_symbol_c4 K) env H := aw_seq grammar_symbol_c1 grammar_symbol_c4
def grammar_symbol_c6 : AC := .reg [⟨some 12, none, .fa 1 1 (.t 2)⟩, ⟨some 13, none, .ld false 1 (.t 12)⟩, ⟨some 14, none, .mov (.t 1)⟩, ⟨some 15, none, .bin (.sub) (.c (.int (.i64) (-1))) (.t 14)⟩, ⟨some 16, none, .ixa 1 (.t 13) (.t 15)⟩, ⟨some 17, none, .ld false 1 (.t 16)⟩, ⟨some 4, none, .mov (.t 17)⟩] [1, 2, 6, 12, 13, 14, 15, 16, 17]
@[simp] theorem grammar_symbol_c6_eq : aw PP grammar_symbol_c6 K env H = awOps PP [⟨some 12, none, .fa 1 1 (.t 2)⟩, ⟨some 13, none, .ld false 1 (.t 12)⟩, ⟨some 14, none, .mov (.t 1)⟩, ⟨some 15, none, .bin (.sub) (.c (.int (.i64) (-1))) (.t 14)⟩, ⟨some 16, none, .ixa 1 (.t 13) (.t 15)⟩, ⟨some 17, none, .ld false 1 (.t 16)⟩, ⟨some 4, none, .mov (.t 17)⟩] (regK K [1, 2, 6, 12, 13, 14, 15, 16, 17]) (panK K) env H := aw_reg _ _
def grammar_symbol_c7 : AC := .seq grammar_symbol_c6 .ret
@[simp] theorem grammar_symbol_c7_eq : aw PP grammar_symbol_c7 K env H = aw PP grammar_symbol_c6 (seqK PP .ret K) env H := aw_seq grammar_symbol_c6 .ret
def grammar_symbol_c8 : AC := .seq grammar_symbol_c5 grammar_symbol_c7
@[simp] theorem grammar_symbol_c8_eq : aw PP grammar_symbol_c8 K env H = aw PP grammar_symbol_c5 (seqK PP grammar_symbol_c7 K) env H := aw_seq grammar_symbol_c5 grammar_symbol_c7
def grammar_symbol_c9 : AC := .seq grammar_symbol_c0 grammar_symbol_c8
@[simp] theorem grammar_symbol_c9_eq : aw PP grammar_symbol_c9 K env H = aw PP grammar_symbol_c0 (seqK PP grammar_symbol_c8 K) env H := aw_seq grammar_symbol_c0 grammar_symbol_c8
def grammar_symbol_ac : AC := grammar_symbol_c9
@[simp] theorem grammar_symbol_ac_eq : aw PP grammar_symbol_ac K env H = aw PP grammar_symbol_c9 K env H := Eq.trans rfl rfl
def grammar_symbol_rs : List ARV := [.tmp 4]
abbrev grammar_symbol_id : Nat := 34
theorem grammar_symbol_comp : compF PP grammar_symbol_kl grammar_symbol_ow 2 Tryd.f34 = some (grammar_symbol_ac, grammar_symbol_rs) := by kernel_rfl
theorem grammar_symbol_enter {args : List AV} {H : AHeap} {post : ARes → AHeap → Prop} (ha : args.length = 2) (h : aw PP grammar_symbol_ac (retK grammar_symbol_rs post) (argEnv 0 args) H) : ACalls PP grammar_symbol_id args H post := .enterF Tryd.func34 PP_mix grammar_symbol_comp ha h

/-! strconv.Itoa -/
def strconv_Itoa_kl : Nat → List Nat
  | 0 => [2]
  | 1 => [0, 3, 4]
  | _ => []
def strconv_Itoa_ow : Nat → Nat → Bool := fun _ _ => false
def strconv_Itoa_c0 : AC := .reg [⟨some 2, none, .mov (.c (.str []))⟩] [2]
@[simp] theorem strconv_Itoa_c0_eq : aw PP strconv_Itoa_c0 K env H = awOps PP [⟨some 2, none, .mov (.c (.str []))⟩] (regK K [2]) (panK K) env H := aw_reg _ _
def strconv_Itoa_c1 : AC := .reg [⟨some 3, none, .mov (.t 0)⟩, ⟨some 4, none, .call (.c (.fn (.func 44) [] [])) [.t 3]⟩, ⟨some 2, none, .mov (.t 4)⟩] [0, 3, 4]
@[simp] theorem strconv_Itoa_c1_eq : aw PP strconv_Itoa_c1 K env H = awOps PP [⟨some 3, none, .mov (.t 0)⟩, ⟨some 4, none, .call (.c (.fn (.func 44) [] [])) [.t 3]⟩, ⟨some 2, none, .mov (.t 4)⟩] (regK K [0, 3, 4]) (panK K) env H := aw_reg _ _
def strconv_Itoa_c2 : AC := .seq strconv_Itoa_c1 .ret
@[simp] theorem strconv_Itoa_c2_eq : aw PP strconv_Itoa_c2 K env H = aw PP strconv_Itoa_c1 (seqK PP .ret K) env H := aw_seq strconv_Itoa_c1 .ret
def strconv_Itoa_c3 : AC := .seq strconv_Itoa_c0 strconv_Itoa_c2
@[simp] theorem strconv_Itoa_c3_eq : aw PP strconv_Itoa_c3 K env H = aw PP strconv_Itoa_c0 (seqK PP strconv_Itoa_c2 K) env H := aw_seq strconv_Itoa_c0 strconv_Itoa_c2
def strconv_Itoa_ac : AC := strconv_Itoa_c3
@[simp] theorem strconv_Itoa_ac_eq : aw PP strconv_Itoa_ac K env H = aw PP strconv_Itoa_c3 K env H := Eq.trans rfl rfl
def strconv_Itoa_rs : List ARV := [.tmp 2]
abbrev strconv_Itoa_id : Nat := 35
theorem strconv_Itoa_comp : compF PP strconv_Itoa_kl strconv_Itoa_ow 1 Tryd.f35 = some (strconv_Itoa_ac, strconv_Itoa_rs) := by kernel_rfl
theorem strconv_Itoa_enter {args : List AV} {H : AHeap} {post : ARes → AHeap → Prop} (ha : args.length = 1) (h : aw PP strconv_Itoa_ac (retK strconv_Itoa_rs post) (argEnv 0 args) H) : ACalls PP strconv_Itoa_id args H post := .enterF Tryd.func35 PP_mix strconv_Itoa_comp ha h

-- taken in parts: (*strings.Builder).String
def sB_String_kl : Nat → List Nat
  | 0 => [2]
  | 1 => [0, 3, 4, 5, 6, 7, 8, 9, 10, 11, 12, 13]
  | _ => []
def sB_String_ow : Nat → Nat → Bool := fun _ _ => false
abbrev sB_String_id : Nat := 36
def sB_String_c0 : AC := .reg [⟨some 2, none, .mov (.c (.str []))⟩] [2]
@[simp] theorem sB_String_c0_eq : aw PP sB_String_c0 K env H = awOps PP [⟨some 2, none, .mov (.c (.str []))⟩] (regK K [2]) (panK K) env H := aw_reg _ _
def sB_String_p0_ac : AC := sB_String_c0
@[simp] theorem sB_String_p0_ac_eq : aw PP sB_String_p0_ac K env H = aw PP sB_String_c0 K env H := Eq.trans rfl rfl
theorem sB_String_p0_comp : comp PP sB_String_kl sB_String_ow 14 (codeAt (bodyOf Tryd.f36) [0]) = some sB_String_p0_ac := by kernel_rfl
def sB_String_p1_ac : AC := .ret
@[simp] theorem sB_String_p1_ac_eq : aw PP sB_String_p1_ac K env H = aw PP .ret K env H := Eq.trans rfl rfl
theorem sB_String_p1_comp : comp PP sB_String_kl sB_String_ow 14 (codeAt (bodyOf Tryd.f36) [1, 1]) = some sB_String_p1_ac := by kernel_rfl
def sB_String_rs : List ARV := [.tmp 2]
theorem sB_String_rsc : compRes PP Tryd.f36.results.toList = some sB_String_rs := by kernel_rfl

/-! emendate.emendateref18.words -/
def ref18_words_kl : Nat → List Nat
  | 0 => [2]
  | 3 => [5, 6, 7]
  | 4 => [9, 10]
  | 5 => [8, 11, 12, 13, 14, 15, 16, 17]
  | 6 => [0, 3, 4, 8, 18]
  | _ => []
def ref18_words_ow : Nat → Nat → Bool := fun _ _ => false
def ref18_words_c0 : AC := .reg [⟨some 2, none, .mov (.c (.str []))⟩] [2]
@[simp] theorem ref18_words_c0_eq : aw PP ref18_words_c0 K env H = awOps PP [⟨some 2, none, .mov (.c (.str []))⟩] (regK K [2]) (panK K) env H := aw_reg _ _
def ref18_words_c1 : AC := .reg [⟨some 3, none, .mov (.c (.str []))⟩] []
@[simp] theorem ref18_words_c1_eq : aw PP ref18_words_c1 K env H = awOps PP [⟨some 3, none, .mov (.c (.str []))⟩] (regK K []) (panK K) env H := aw_reg _ _
def ref18_words_c2 : AC := .reg [⟨some 4, none, .mov (.c (.int (.i64) 0))⟩] []
@[simp] theorem ref18_words_c2_eq : aw PP ref18_words_c2 K env H = awOps PP [⟨some 4, none, .mov (.c (.int (.i64) 0))⟩] (regK K []) (panK K) env H := aw_reg _ _
def ref18_words_c3 : AC := .reg [⟨some 5, none, .mov (.t 4)⟩, ⟨some 6, none, .mov (.t 0)⟩, ⟨some 7, none, .lenl (.t 6)⟩, ⟨some 8, none, .bin (.lss) (.t 5) (.t 7)⟩] [5, 6, 7]
@[simp] theorem ref18_words_c3_eq : aw PP ref18_words_c3 K env H = awOps PP [⟨some 5, none, .mov (.t 4)⟩, ⟨some 6, none, .mov (.t 0)⟩, ⟨some 7, none, .lenl (.t 6)⟩, ⟨some 8, none, .bin (.lss) (.t 5) (.t 7)⟩] (regK K [5, 6, 7]) (panK K) env H := aw_reg _ _
def ref18_words_c4 : AC := .cond (.t 8) .skip (.exit 0)
@[simp] theorem ref18_words_c4_eq : aw PP ref18_words_c4 K env H = condQ PP (Opd.ev env (.t 8)) .skip (.exit 0) K env H := aw_cond _ .skip (.exit 0)
def ref18_words_c5 : AC := .seq ref18_words_c3 ref18_words_c4
@[simp] theorem ref18_words_c5_eq : aw PP ref18_words_c5 K env H = aw PP ref18_words_c3 (seqK PP ref18_words_c4 K) env H := aw_seq ref18_words_c3 ref18_words_c4
def ref18_words_c6 : AC := .reg [⟨some 11, none, .mov (.t 3)⟩, ⟨some 12, none, .bin (.add) (.t 11) (.c (.str [32]))⟩, ⟨some 13, none, .mov (.t 0)⟩, ⟨some 14, none, .mov (.t 4)⟩, ⟨some 15, none, .ixa 1 (.t 13) (.t 14)⟩, ⟨some 16, none, .ld false 1 (.t 15)⟩, ⟨some 17, none, .bin (.add) (.t 12) (.t 16)⟩, ⟨some 3, none, .mov (.t 17)⟩] [8, 11, 12, 13, 14, 15, 16, 17]
@[simp] theorem ref18_words_c6_eq : aw PP ref18_words_c6 K env H = awOps PP [⟨some 11, none, .mov (.t 3)⟩, ⟨some 12, none, .bin (.add) (.t 11) (.c (.str [32]))⟩, ⟨some 13, none, .mov (.t 0)⟩, ⟨some 14, none, .mov (.t 4)⟩, ⟨some 15, none, .ixa 1 (.t 13) (.t 14)⟩, ⟨some 16, none, .ld false 1 (.t 15)⟩, ⟨some 17, none, .bin (.add) (.t 12) (.t 16)⟩, ⟨some 3, none, .mov (.t 17)⟩] (regK K [8, 11, 12, 13, 14, 15, 16, 17]) (panK K) env H := aw_reg _ _
def ref18_words_c7 : AC := .block 1 ref18_words_c6
@[simp] theorem ref18_words_c7_eq : aw PP ref18_words_c7 K env H = aw PP ref18_words_c6 (blockK 1 K) env H := aw_block _ ref18_words_c6
def ref18_words_c8 : AC := .reg [⟨some 9, none, .mov (.t 4)⟩, ⟨some 10, none, .bin (.add) (.t 9) (.c (.int (.i64) 1))⟩, ⟨some 4, none, .mov (.t 10)⟩] [9, 10]
@[simp] theorem ref18_words_c8_eq : aw PP ref18_words_c8 K env H = awOps PP [⟨some 9, none, .mov (.t 4)⟩, ⟨some 10, none, .bin (.add) (.t 9) (.c (.int (.i64) 1))⟩, ⟨some 4, none, .mov (.t 10)⟩] (regK K [9, 10]) (panK K) env H := aw_reg _ _
def ref18_words_c9 : AC := .seq ref18_words_c7 ref18_words_c8
@[simp] theorem ref18_words_c9_eq : aw PP ref18_words_c9 K env H = aw PP ref18_words_c7 (seqK PP ref18_words_c8 K) env H := aw_seq ref18_words_c7 ref18_words_c8
def ref18_words_c10 : AC := .seq ref18_words_c5 ref18_words_c9
@[simp] theorem ref18_words_c10_eq : aw PP ref18_words_c10 K env H = aw PP ref18_words_c5 (seqK PP ref18_words_c9 K) env H := aw_seq ref18_words_c5 ref18_words_c9
def ref18_words_c11 : AC := .loop ref18_words_c10
def ref18_words_c12 : AC := .block 0 ref18_words_c11
@[simp] theorem ref18_words_c12_eq : aw PP ref18_words_c12 K env H = aw PP ref18_words_c11 (blockK 0 K) env H := aw_block _ ref18_words_c11
def ref18_words_c13 : AC := .seq ref18_words_c2 ref18_words_c12
@[simp] theorem ref18_words_c13_eq : aw PP ref18_words_c13 K env H = aw PP ref18_words_c2 (seqK PP ref18_words_c12 K) env H := aw_seq ref18_words_c2 ref18_words_c12
def ref18_words_c14 : AC := .reg [⟨some 18, none, .mov (.t 3)⟩, ⟨some 2, none, .mov (.t 18)⟩] [0, 3, 4, 8, 18]
@[simp] theorem ref18_words_c14_eq : aw PP ref18_words_c14 K env H = awOps PP [⟨some 18, none, .mov (.t 3)⟩, ⟨some 2, none, .mov (.t 18)⟩] (regK K [0, 3, 4, 8, 18]) (panK K) env H := aw_reg _ _
def ref18_words_c15 : AC := .seq ref18_words_c14 .ret
@[simp] theorem ref18_words_c15_eq : aw PP ref18_words_c15 K env H = aw PP ref18_words_c14 (seqK PP .ret K) env H := aw_seq ref18_words_c14 .ret
def ref18_words_c16 : AC := .seq ref18_words_c13 ref18_words_c15
@[simp] theorem ref18_words_c16_eq : aw PP ref18_words_c16 K env H = aw PP ref18_words_c13 (seqK PP ref18_words_c15 K) env H := aw_seq ref18_words_c13 ref18_words_c15
def ref18_words_c17 : AC := .seq ref18_words_c1 ref18_words_c16
@[simp] theorem ref18_words_c17_eq : aw PP ref18_words_c17 K env H = aw PP ref18_words_c1 (seqK PP ref18_words_c16 K) env H := aw_seq ref18_words_c1 ref18_words_c16
def ref18_words_c18 : AC := .seq ref18_words_c0 ref18_words_c17
@[simp] theorem ref18_words_c18_eq : aw PP ref18_words_c18 K env H = aw PP ref18_words_c0 (seqK PP ref18_words_c17 K) env H := aw_seq ref18_words_c0 ref18_words_c17
def ref18_words_ac : AC := ref18_words_c18
@[simp] theorem ref18_words_ac_eq : aw PP ref18_words_ac K env H = aw PP ref18_words_c18 K env H := Eq.trans rfl rfl
def ref18_words_rs : List ARV := [.tmp 2]
abbrev ref18_words_id : Nat := 37
theorem ref18_words_comp : compF PP ref18_words_kl ref18_words_ow 1 Tryd.f37 = some (ref18_words_ac, ref18_words_rs) := by kernel_rfl
theorem ref18_words_enter {args : List AV} {H : AHeap} {post : ARes → AHeap → Prop} (ha : args.length = 1) (h : aw PP ref18_words_ac (retK ref18_words_rs post) (argEnv 0 args) H) : ACalls PP ref18_words_id args H post := .enterF Tryd.func37 PP_mix ref18_words_comp ha h

/-! slices.Index[[]string,string] -/
def sl_Index_string_kl : Nat → List Nat
  | 0 => [4]
  | 1 => [6]
  | 3 => [9, 10]
  | 4 => [11, 12, 13, 14, 15]
  | 5 => [0, 1, 5, 7, 8, 16, 17]
  | 6 => [5, 16, 18]
  | 7 => [0, 1, 7, 8, 9]
  | _ => []
def sl_Index_string_ow : Nat → Nat → Bool := fun _ _ => false
def sl_Index_string_c0 : AC := .reg [⟨some 4, none, .mov (.c (.int (.i64) 0))⟩] [4]
@[simp] theorem sl_Index_string_c0_eq : aw PP sl_Index_string_c0 K env H = awOps PP [⟨some 4, none, .mov (.c (.int (.i64) 0))⟩] (regK K [4]) (panK K) env H := aw_reg _ _
def sl_Index_string_c1 : AC := .reg [⟨some 6, none, .mov (.t 0)⟩, ⟨some 7, none, .lenl (.t 6)⟩, ⟨some 8, none, .mov (.c (.int (.i64) 0))⟩] [6]
@[simp] theorem sl_Index_string_c1_eq : aw PP sl_Index_string_c1 K env H = awOps PP [⟨some 6, none, .mov (.t 0)⟩, ⟨some 7, none, .lenl (.t 6)⟩, ⟨some 8, none, .mov (.c (.int (.i64) 0))⟩] (regK K [6]) (panK K) env H := aw_reg _ _
def sl_Index_string_c2 : AC := .reg [⟨some 9, none, .bin (.lss) (.t 8) (.t 7)⟩] []
@[simp] theorem sl_Index_string_c2_eq : aw PP sl_Index_string_c2 K env H = awOps PP [⟨some 9, none, .bin (.lss) (.t 8) (.t 7)⟩] (regK K []) (panK K) env H := aw_reg _ _
def sl_Index_string_c3 : AC := .cond (.t 9) .skip (.exit 0)
@[simp] theorem sl_Index_string_c3_eq : aw PP sl_Index_string_c3 K env H = condQ PP (Opd.ev env (.t 9)) .skip (.exit 0) K env H := aw_cond _ .skip (.exit 0)
def sl_Index_string_c4 : AC := .reg [⟨some 10, none, .mov (.t 8)⟩, ⟨some 5, none, .mov (.t 10)⟩] [9, 10]
@[simp] theorem sl_Index_string_c4_eq : aw PP sl_Index_string_c4 K env H = awOps PP [⟨some 10, none, .mov (.t 8)⟩, ⟨some 5, none, .mov (.t 10)⟩] (regK K [9, 10]) (panK K) env H := aw_reg _ _
def sl_Index_string_c5 : AC := .reg [⟨some 11, none, .mov (.t 1)⟩, ⟨some 12, none, .mov (.t 0)⟩, ⟨some 13, none, .mov (.t 5)⟩, ⟨some 14, none, .ixa 1 (.t 12) (.t 13)⟩, ⟨some 15, none, .ld false 1 (.t 14)⟩, ⟨some 16, none, .bin (.eql) (.t 11) (.t 15)⟩] [11, 12, 13, 14, 15]
@[simp] theorem sl_Index_string_c5_eq : aw PP sl_Index_string_c5 K env H = awOps PP [⟨some 11, none, .mov (.t 1)⟩, ⟨some 12, none, .mov (.t 0)⟩, ⟨some 13, none, .mov (.t 5)⟩, ⟨some 14, none, .ixa 1 (.t 12) (.t 13)⟩, ⟨some 15, none, .ld false 1 (.t 14)⟩, ⟨some 16, none, .bin (.eql) (.t 11) (.t 15)⟩] (regK K [11, 12, 13, 14, 15]) (panK K) env H := aw_reg _ _
def sl_Index_string_c6 : AC := .reg [⟨some 17, none, .mov (.t 5)⟩, ⟨some 4, none, .mov (.t 17)⟩] [0, 1, 5, 7, 8, 16, 17]
@[simp] theorem sl_Index_string_c6_eq : aw PP sl_Index_string_c6 K env H = awOps PP [⟨some 17, none, .mov (.t 5)⟩, ⟨some 4, none, .mov (.t 17)⟩] (regK K [0, 1, 5, 7, 8, 16, 17]) (panK K) env H := aw_reg _ _
def sl_Index_string_c7 : AC := .seq sl_Index_string_c6 .ret
@[simp] theorem sl_Index_string_c7_eq : aw PP sl_Index_string_c7 K env H = aw PP sl_Index_string_c6 (seqK PP .ret K) env H := aw_seq sl_Index_string_c6 .ret
def sl_Index_string_c8 : AC := .cond (.t 16) sl_Index_string_c7 .skip
@[simp] theorem sl_Index_string_c8_eq : aw PP sl_Index_string_c8 K env H = condQ PP (Opd.ev env (.t 16)) sl_Index_string_c7 .skip K env H := aw_cond _ sl_Index_string_c7 .skip
def sl_Index_string_c9 : AC := .seq sl_Index_string_c5 sl_Index_string_c8
@[simp] theorem sl_Index_string_c9_eq : aw PP sl_Index_string_c9 K env H = aw PP sl_Index_string_c5 (seqK PP sl_Index_string_c8 K) env H := aw_seq sl_Index_string_c5 sl_Index_string_c8
def sl_Index_string_c10 : AC := .seq sl_Index_string_c4 sl_Index_string_c9
@[simp] theorem sl_Index_string_c10_eq : aw PP sl_Index_string_c10 K env H = aw PP sl_Index_string_c4 (seqK PP sl_Index_string_c9 K) env H := aw_seq sl_Index_string_c4 sl_Index_string_c9
def sl_Index_string_c11 : AC := .block 1 sl_Index_string_c10
@[simp] theorem sl_Index_string_c11_eq : aw PP sl_Index_string_c11 K env H = aw PP sl_Index_string_c10 (blockK 1 K) env H := aw_block _ sl_Index_string_c10
def sl_Index_string_c12 : AC := .reg [⟨some 18, none, .bin (.add) (.t 8) (.c (.int (.i64) 1))⟩, ⟨some 8, none, .mov (.t 18)⟩] [5, 16, 18]
@[simp] theorem sl_Index_string_c12_eq : aw PP sl_Index_string_c12 K env H = awOps PP [⟨some 18, none, .bin (.add) (.t 8) (.c (.int (.i64) 1))⟩, ⟨some 8, none, .mov (.t 18)⟩] (regK K [5, 16, 18]) (panK K) env H := aw_reg _ _
def sl_Index_string_c13 : AC := .seq sl_Index_string_c11 sl_Index_string_c12
@[simp] theorem sl_Index_string_c13_eq : aw PP sl_Index_string_c13 K env H = aw PP sl_Index_string_c11 (seqK PP sl_Index_string_c12 K) env H := aw_seq sl_Index_string_c11 sl_Index_string_c12
def sl_Index_string_c14 : AC := .seq sl_Index_string_c3 sl_Index_string_c13
@[simp] theorem sl_Index_string_c14_eq : aw PP sl_Index_string_c14 K env H = aw PP sl_Index_string_c3 (seqK PP sl_Index_string_c13 K) env H := aw_seq sl_Index_string_c3 sl_Index_string_c13
def sl_Index_string_c15 : AC := .seq sl_Index_string_c2 sl_Index_string_c14
@[simp] theorem sl_Index_string_c15_eq : aw PP sl_Index_string_c15 K env H = aw PP sl_Index_string_c2 (seqK PP sl_Index_string_c14 K) env H := aw_seq sl_Index_string_c2 sl_Index_string_c14
def sl_Index_string_c16 : AC := .loop sl_Index_string_c15
def sl_Index_string_c17 : AC := .block 0 sl_Index_string_c16
@[simp] theorem sl_Index_string_c17_eq : aw PP sl_Index_string_c17 K env H = aw PP sl_Index_string_c16 (blockK 0 K) env H := aw_block _ sl_Index_string_c16
def sl_Index_string_c18 : AC := .seq sl_Index_string_c1 sl_Index_string_c17
@[simp] theorem sl_Index_string_c18_eq : aw PP sl_Index_string_c18 K env H = aw PP sl_Index_string_c1 (seqK PP sl_Index_string_c17 K) env H := aw_seq sl_Index_string_c1 sl_Index_string_c17
def sl_Index_string_c19 : AC := .reg [⟨some 4, none, .mov (.c (.int (.i64) (-1)))⟩] [0, 1, 7, 8, 9]
@[simp] theorem sl_Index_string_c19_eq : aw PP sl_Index_string_c19 K env H = awOps PP [⟨some 4, none, .mov (.c (.int (.i64) (-1)))⟩] (regK K [0, 1, 7, 8, 9]) (panK K) env H := aw_reg _ _
def sl_Index_string_c20 : AC := .seq sl_Index_string_c19 .ret
@[simp] theorem sl_Index_string_c20_eq : aw PP sl_Index_string_c20 K env H = aw PP sl_Index_string_c19 (seqK PP .ret K) env H := aw_seq sl_Index_string_c19 .ret
def sl_Index_string_c21 : AC := .seq sl_Index_string_c18 sl_Index_string_c20
@[simp] theorem sl_Index_string_c21_eq : aw PP sl_Index_string_c21 K env H = aw PP sl_Index_string_c18 (seqK PP sl_Index_string_c20 K) env H := aw_seq sl_Index_string_c18 sl_Index_string_c20
def sl_Index_string_c22 : AC := .seq sl_Index_string_c0 sl_Index_string_c21
@[simp] theorem sl_Index_string_c22_eq : aw PP sl_Index_string_c22 K env H = aw PP sl_Index_string_c0 (seqK PP sl_Index_string_c21 K) env H := aw_seq sl_Index_string_c0 sl_Index_string_c21
def sl_Index_string_ac : AC := sl_Index_string_c22
@[simp] theorem sl_Index_string_ac_eq : aw PP sl_Index_string_ac K env H = aw PP sl_Index_string_c22 K env H := Eq.trans rfl rfl
def sl_Index_string_rs : List ARV := [.tmp 4]
abbrev sl_Index_string_id : Nat := 38
theorem sl_Index_string_comp : compF PP sl_Index_string_kl sl_Index_string_ow 2 Tryd.f38 = some (sl_Index_string_ac, sl_Index_string_rs) := by kernel_rfl
theorem sl_Index_string_enter {args : List AV} {H : AHeap} {post : ARes → AHeap → Prop} (ha : args.length = 2) (h : aw PP sl_Index_string_ac (retK sl_Index_string_rs post) (argEnv 0 args) H) : ACalls PP sl_Index_string_id args H post := .enterF Tryd.func38 PP_mix sl_Index_string_comp ha h

/-! emendate.grammar.name -/
def grammar_name_kl : Nat → List Nat
  | 0 => [2]
  | 1 => [5, 6, 7, 8, 9, 10, 11, 12, 13, 14, 15, 16]
  | 2 => [0, 17]
  | 3 => [0, 17, 18]
  | 5 => [22, 23, 24]
  | 6 => [4, 25, 26, 27, 28, 29, 30, 31, 32, 33, 34, 35, 36, 37, 38, 39, 40]
  | 7 => [19, 20, 21, 41]
  | 8 => [41, 42]
  | 9 => [19, 20, 21, 22]
  | _ => []
def grammar_name_ow : Nat → Nat → Bool := fun _ _ => false
def grammar_name_c0 : AC := .reg [⟨some 2, none, .mov (.c (.bool false))⟩] [2]
@[simp] theorem grammar_name_c0_eq : aw PP grammar_name_c0 K env H = awOps PP [⟨some 2, none, .mov (.c (.bool false))⟩] (regK K [2]) (panK K) env H := aw_reg _ _
def grammar_name_c1 : AC := .reg [⟨some 5, none, .mov (.t 0)⟩, ⟨some 6, none, .bin (.eql) (.t 5) (.c (.str []))⟩, ⟨some 7, none, .mov (.t 6)⟩, ⟨some 8, some (7, false), .mov (.t 0)⟩, ⟨some 9, some (7, false), .lens (.t 8)⟩, ⟨some 10, some (7, false), .bin (.gtr) (.t 9) (.c (.int (.i64) 48))⟩, ⟨some 11, none, .pick (.t 7) (.c (.bool true)) (.t 10)⟩, ⟨some 12, none, .mov (.t 11)⟩, ⟨some 13, some (12, false), .mov (.t 0)⟩, ⟨some 14, some (12, false), .ix (.t 13) (.c (.int (.i64) 0))⟩, ⟨some 15, some (12, false), .call (.c (.fn (.func 45) [] [])) [.t 14]⟩, ⟨some 16, some (12, false), .not (.t 15)⟩, ⟨some 17, none, .pick (.t 12) (.c (.bool true)) (.t 16)⟩] [5, 6, 7, 8, 9, 10, 11, 12, 13, 14, 15, 16]
@[simp] theorem grammar_name_c1_eq : aw PP grammar_name_c1 K env H = awOps PP [⟨some 5, none, .mov (.t 0)⟩, ⟨some 6, none, .bin (.eql) (.t 5) (.c (.str []))⟩, ⟨some 7, none, .mov (.t 6)⟩, ⟨some 8, some (7, false), .mov (.t 0)⟩, ⟨some 9, some (7, false), .lens (.t 8)⟩, ⟨some 10, some (7, false), .bin (.gtr) (.t 9) (.c (.int (.i64) 48))⟩, ⟨some 11, none, .pick (.t 7) (.c (.bool true)) (.t 10)⟩, ⟨some 12, none, .mov (.t 11)⟩, ⟨some 13, some (12, false), .mov (.t 0)⟩, ⟨some 14, some (12, false), .ix (.t 13) (.c (.int (.i64) 0))⟩, ⟨some 15, some (12, false), .call (.c (.fn (.func 45) [] [])) [.t 14]⟩, ⟨some 16, some (12, false), .not (.t 15)⟩, ⟨some 17, none, .pick (.t 12) (.c (.bool true)) (.t 16)⟩] (regK K [5, 6, 7, 8, 9, 10, 11, 12, 13, 14, 15, 16]) (panK K) env H := aw_reg _ _
def grammar_name_c2 : AC := .reg [⟨some 2, none, .mov (.c (.bool false))⟩] [0, 17]
@[simp] theorem grammar_name_c2_eq : aw PP grammar_name_c2 K env H = awOps PP [⟨some 2, none, .mov (.c (.bool false))⟩] (regK K [0, 17]) (panK K) env H := aw_reg _ _
def grammar_name_c3 : AC := .seq grammar_name_c2 .ret
@[simp] theorem grammar_name_c3_eq : aw PP grammar_name_c3 K env H = aw PP grammar_name_c2 (seqK PP .ret K) env H := aw_seq grammar_name_c2 .ret
def grammar_name_c4 : AC := .cond (.t 17) grammar_name_c3 .skip
@[simp] theorem grammar_name_c4_eq : aw PP grammar_name_c4 K env H = condQ PP (Opd.ev env (.t 17)) grammar_name_c3 .skip K env H := aw_cond _ grammar_name_c3 .skip
def grammar_name_c5 : AC := .seq grammar_name_c1 grammar_name_c4
@[simp] theorem grammar_name_c5_eq : aw PP grammar_name_c5 K env H = aw PP grammar_name_c1 (seqK PP grammar_name_c4 K) env H := aw_seq grammar_name_c1 grammar_name_c4
def grammar_name_c6 : AC := .reg [⟨some 18, none, .mov (.t 0)⟩, ⟨some 19, none, .s2b (.t 18)⟩, ⟨some 20, none, .lenl (.t 19)⟩, ⟨some 21, none, .mov (.c (.int (.i64) 0))⟩] [0, 17, 18]
@[simp] theorem grammar_name_c6_eq : aw PP grammar_name_c6 K env H = awOps PP [⟨some 18, none, .mov (.t 0)⟩, ⟨some 19, none, .s2b (.t 18)⟩, ⟨some 20, none, .lenl (.t 19)⟩, ⟨some 21, none, .mov (.c (.int (.i64) 0))⟩] (regK K [0, 17, 18]) (panK K) env H := aw_reg _ _
def grammar_name_c7 : AC := .reg [⟨some 22, none, .bin (.lss) (.t 21) (.t 20)⟩] []
@[simp] theorem grammar_name_c7_eq : aw PP grammar_name_c7 K env H = awOps PP [⟨some 22, none, .bin (.lss) (.t 21) (.t 20)⟩] (regK K []) (panK K) env H := aw_reg _ _
def grammar_name_c8 : AC := .cond (.t 22) .skip (.exit 0)
@[simp] theorem grammar_name_c8_eq : aw PP grammar_name_c8 K env H = condQ PP (Opd.ev env (.t 22)) .skip (.exit 0) K env H := aw_cond _ .skip (.exit 0)
def grammar_name_c9 : AC := .reg [⟨some 23, none, .ixa 1 (.t 19) (.t 21)⟩, ⟨some 24, none, .ld false 1 (.t 23)⟩, ⟨some 4, none, .mov (.t 24)⟩] [22, 23, 24]
@[simp] theorem grammar_name_c9_eq : aw PP grammar_name_c9 K env H = awOps PP [⟨some 23, none, .ixa 1 (.t 19) (.t 21)⟩, ⟨some 24, none, .ld false 1 (.t 23)⟩, ⟨some 4, none, .mov (.t 24)⟩] (regK K [22, 23, 24]) (panK K) env H := aw_reg _ _
def grammar_name_c10 : AC := .reg [⟨some 25, none, .mov (.t 4)⟩, ⟨some 26, none, .call (.c (.fn (.func 45) [] [])) [.t 25]⟩, ⟨some 27, none, .not (.t 26)⟩, ⟨some 28, none, .mov (.t 27)⟩, ⟨some 29, some (28, true), .mov (.t 4)⟩, ⟨some 30, some (28, true), .bin (.lss) (.t 29) (.c (.int (.u8) 48))⟩, ⟨some 31, some (28, true), .mov (.t 30)⟩, ⟨some 32, some (31, false), .mov (.t 4)⟩, ⟨some 33, some (31, false), .bin (.gtr) (.t 32) (.c (.int (.u8) 57))⟩, ⟨some 34, some (28, true), .pick (.t 31) (.c (.bool true)) (.t 33)⟩, ⟨some 35, none, .pick (.t 28) (.t 34) (.c (.bool false))⟩, ⟨some 36, none, .mov (.t 35)⟩, ⟨some 37, some (36, true), .mov (.t 4)⟩, ⟨some 38, some (36, true), .i2s (.t 37)⟩, ⟨some 39, some (36, true), .call (.c (.fn (.func 46) [] [])) [.c (.str [95, 46, 64]), .t 38]⟩, ⟨some 40, some (36, true), .not (.t 39)⟩, ⟨some 41, none, .pick (.t 36) (.t 40) (.c (.bool false))⟩] [4, 25, 26, 27, 28, 29, 30, 31, 32, 33, 34, 35, 36, 37, 38, 39, 40]
@[simp] theorem grammar_name_c10_eq : aw PP grammar_name_c10 K env H = awOps PP [⟨some 25, none, .mov (.t 4)⟩, ⟨some 26, none, .call (.c (.fn (.func 45) [] [])) [.t 25]⟩, ⟨some 27, none, .not (.t 26)⟩, ⟨some 28, none, .mov (.t 27)⟩, ⟨some 29, some (28, true), .mov (.t 4)⟩, ⟨some 30, some (28, true), .bin (.lss) (.t 29) (.c (.int (.u8) 48))⟩, ⟨some 31, some (28, true), .mov (.t 30)⟩, ⟨some 32, some (31, false), .mov (.t 4)⟩, ⟨some 33, some (31, false), .bin (.gtr) (.t 32) (.c (.int (.u8) 57))⟩, ⟨some 34, some (28, true), .pick (.t 31) (.c (.bool true)) (.t 33)⟩, ⟨some 35, none, .pick (.t 28) (.t 34) (.c (.bool false))⟩, ⟨some 36, none, .mov (.t 35)⟩, ⟨some 37, some (36, true), .mov (.t 4)⟩, ⟨some 38, some (36, true), .i2s (.t 37)⟩, ⟨some 39, some (36, true), .call (.c (.fn (.func 46) [] [])) [.c (.str [95, 46, 64]), .t 38]⟩, ⟨some 40, some (36, true), .not (.t 39)⟩, ⟨some 41, none, .pick (.t 36) (.t 40) (.c (.bool false))⟩] (regK K [4, 25, 26, 27, 28, 29, 30, 31, 32, 33, 34, 35, 36, 37, 38, 39, 40]) (panK K) env H := aw_reg _ _
def grammar_name_c11 : AC := .reg [⟨some 2, none, .mov (.c (.bool false))⟩] [19, 20, 21, 41]
@[simp] theorem grammar_name_c11_eq : aw PP grammar_name_c11 K env H = awOps PP [⟨some 2, none, .mov (.c (.bool false))⟩] (regK K [19, 20, 21, 41]) (panK K) env H := aw_reg _ _
def grammar_name_c12 : AC := .seq grammar_name_c11 .ret
@[simp] theorem grammar_name_c12_eq : aw PP grammar_name_c12 K env H = aw PP grammar_name_c11 (seqK PP .ret K) env H := aw_seq grammar_name_c11 .ret
def grammar_name_c13 : AC := .cond (.t 41) grammar_name_c12 .skip
@[simp] theorem grammar_name_c13_eq : aw PP grammar_name_c13 K env H = condQ PP (Opd.ev env (.t 41)) grammar_name_c12 .skip K env H := aw_cond _ grammar_name_c12 .skip
def grammar_name_c14 : AC := .seq grammar_name_c10 grammar_name_c13
@[simp] theorem grammar_name_c14_eq : aw PP grammar_name_c14 K env H = aw PP grammar_name_c10 (seqK PP grammar_name_c13 K) env H := aw_seq grammar_name_c10 grammar_name_c13
def grammar_name_c15 : AC := .seq grammar_name_c9 grammar_name_c14
@[simp] theorem grammar_name_c15_eq : aw PP grammar_name_c15 K env H = aw PP grammar_name_c9 (seqK PP grammar_name_c14 K) env H := aw_seq grammar_name_c9 grammar_name_c14
def grammar_name_c16 : AC := .block 1 grammar_name_c15
@[simp] theorem grammar_name_c16_eq : aw PP grammar_name_c16 K env H = aw PP grammar_name_c15 (blockK 1 K) env H := aw_block _ grammar_name_c15
def grammar_name_c17 : AC := .reg [⟨some 42, none, .bin (.add) (.t 21) (.c (.int (.i64) 1))⟩, ⟨some 21, none, .mov (.t 42)⟩] [41, 42]
@[simp] theorem grammar_name_c17_eq : aw PP grammar_name_c17 K env H = awOps PP [⟨some 42, none, .bin (.add) (.t 21) (.c (.int (.i64) 1))⟩, ⟨some 21, none, .mov (.t 42)⟩] (regK K [41, 42]) (panK K) env H := aw_reg _ _
def grammar_name_c18 : AC := .seq grammar_name_c16 grammar_name_c17
@[simp] theorem grammar_name_c18_eq : aw PP grammar_name_c18 K env H = aw PP grammar_name_c16 (seqK PP grammar_name_c17 K) env H := aw_seq grammar_name_c16 grammar_name_c17
def grammar_name_c19 : AC := .seq grammar_name_c8 grammar_name_c18
@[simp] theorem grammar_name_c19_eq : aw PP grammar_name_c19 K env H = aw PP grammar_name_c8 (seqK PP grammar_name_c18 K) env H := aw_seq grammar_name_c8 grammar_name_c18
def grammar_name_c20 : AC := .seq grammar_name_c7 grammar_name_c19
@[simp] theorem grammar_name_c20_eq : aw PP grammar_name_c20 K env H = aw PP grammar_name_c7 (seqK PP grammar_name_c19 K) env H := aw_seq grammar_name_c7 grammar_name_c19
def grammar_name_c21 : AC := .loop grammar_name_c20
def grammar_name_c22 : AC := .block 0 grammar_name_c21
@[simp] theorem grammar_name_c22_eq : aw PP grammar_name_c22 K env H = aw PP grammar_name_c21 (blockK 0 K) env H := aw_block _ grammar_name_c21
def grammar_name_c23 : AC := .seq grammar_name_c6 grammar_name_c22
@[simp] theorem grammar_name_c23_eq : aw PP grammar_name_c23 K env H = aw PP grammar_name_c6 (seqK PP grammar_name_c22 K) env H := aw_seq grammar_name_c6 grammar_name_c22
def grammar_name_c24 : AC := .reg [⟨some 2, none, .mov (.c (.bool true))⟩] [19, 20, 21, 22]
@[simp] theorem grammar_name_c24_eq : aw PP grammar_name_c24 K env H = awOps PP [⟨some 2, none, .mov (.c (.bool true))⟩] (regK K [19, 20, 21, 22]) (panK K) env H := aw_reg _ _
def grammar_name_c25 : AC := .seq grammar_name_c24 .ret
@[simp] theorem grammar_name_c25_eq : aw PP grammar_name_c25 K env H = aw PP grammar_name_c24 (seqK PP .ret K) env H := aw_seq grammar_name_c24 .ret
def grammar_name_c26 : AC := .seq grammar_name_c23 grammar_name_c25
@[simp] theorem grammar_name_c26_eq : aw PP grammar_name_c26 K env H = aw PP grammar_name_c23 (seqK PP grammar_name_c25 K) env H := aw_seq grammar_name_c23 grammar_name_c25
def grammar_name_c27 : AC := .seq grammar_name_c5 grammar_name_c26
@[simp] theorem grammar_name_c27_eq : aw PP grammar_name_c27 K env H = aw PP grammar_name_c5 (seqK PP grammar_name_c26 K) env H := aw_seq grammar_name_c5 grammar_name_c26
def grammar_name_c28 : AC := .seq grammar_name_c0 grammar_name_c27
@[simp] theorem grammar_name_c28_eq : aw PP grammar_name_c28 K env H = aw PP grammar_name_c0 (seqK PP grammar_name_c27 K) env H := aw_seq grammar_name_c0 grammar_name_c27
def grammar_name_ac : AC := grammar_name_c28
@[simp] theorem grammar_name_ac_eq : aw PP grammar_name_ac K env H = aw PP grammar_name_c28 K env H := Eq.trans rfl rfl
def grammar_name_rs : List ARV := [.tmp 2]
abbrev grammar_name_id : Nat := 39
theorem grammar_name_comp : compF PP grammar_name_kl grammar_name_ow 1 Tryd.f39 = some (grammar_name_ac, grammar_name_rs) := by kernel_rfl
theorem grammar_name_enter {args : List AV} {H : AHeap} {post : ARes → AHeap → Prop} (ha : args.length = 1) (h : aw PP grammar_name_ac (retK grammar_name_rs post) (argEnv 0 args) H) : ACalls PP grammar_name_id args H post := .enterF Tryd.func39 PP_mix grammar_name_comp ha h

/-! slices.IndexFunc[[]int,int] -/
def sI_int_kl : Nat → List Nat
  | 0 => [4]
  | 1 => [6]
  | 3 => [9, 10]
  | 4 => [11, 12, 13, 14, 15]
  | 5 => [0, 1, 5, 7, 8, 16, 17]
  | 6 => [5, 16, 18]
  | 7 => [0, 1, 7, 8, 9]
  | _ => []
def sI_int_ow : Nat → Nat → Bool := fun _ _ => false
def sI_int_c0 : AC := .reg [⟨some 4, none, .mov (.c (.int (.i64) 0))⟩] [4]
@[simp] theorem sI_int_c0_eq : aw PP sI_int_c0 K env H = awOps PP [⟨some 4, none, .mov (.c (.int (.i64) 0))⟩] (regK K [4]) (panK K) env H := aw_reg _ _
def sI_int_c1 : AC := .reg [⟨some 6, none, .mov (.t 0)⟩, ⟨some 7, none, .lenl (.t 6)⟩, ⟨some 8, none, .mov (.c (.int (.i64) 0))⟩] [6]
@[simp] theorem sI_int_c1_eq : aw PP sI_int_c1 K env H = awOps PP [⟨some 6, none, .mov (.t 0)⟩, ⟨some 7, none, .lenl (.t 6)⟩, ⟨some 8, none, .mov (.c (.int (.i64) 0))⟩] (regK K [6]) (panK K) env H := aw_reg _ _
def sI_int_c2 : AC := .reg [⟨some 9, none, .bin (.lss) (.t 8) (.t 7)⟩] []
@[simp] theorem sI_int_c2_eq : aw PP sI_int_c2 K env H = awOps PP [⟨some 9, none, .bin (.lss) (.t 8) (.t 7)⟩] (regK K []) (panK K) env H := aw_reg _ _
def sI_int_c3 : AC := .cond (.t 9) .skip (.exit 0)
@[simp] theorem sI_int_c3_eq : aw PP sI_int_c3 K env H = condQ PP (Opd.ev env (.t 9)) .skip (.exit 0) K env H := aw_cond _ .skip (.exit 0)
def sI_int_c4 : AC := .reg [⟨some 10, none, .mov (.t 8)⟩, ⟨some 5, none, .mov (.t 10)⟩] [9, 10]
@[simp] theorem sI_int_c4_eq : aw PP sI_int_c4 K env H = awOps PP [⟨some 10, none, .mov (.t 8)⟩, ⟨some 5, none, .mov (.t 10)⟩] (regK K [9, 10]) (panK K) env H := aw_reg _ _
def sI_int_c5 : AC := .reg [⟨some 11, none, .mov (.t 1)⟩, ⟨some 12, none, .mov (.t 0)⟩, ⟨some 13, none, .mov (.t 5)⟩, ⟨some 14, none, .ixa 1 (.t 12) (.t 13)⟩, ⟨some 15, none, .ld false 1 (.t 14)⟩, ⟨some 16, none, .call (.t 11) [.t 15]⟩] [11, 12, 13, 14, 15]
@[simp] theorem sI_int_c5_eq : aw PP sI_int_c5 K env H = awOps PP [⟨some 11, none, .mov (.t 1)⟩, ⟨some 12, none, .mov (.t 0)⟩, ⟨some 13, none, .mov (.t 5)⟩, ⟨some 14, none, .ixa 1 (.t 12) (.t 13)⟩, ⟨some 15, none, .ld false 1 (.t 14)⟩, ⟨some 16, none, .call (.t 11) [.t 15]⟩] (regK K [11, 12, 13, 14, 15]) (panK K) env H := aw_reg _ _
def sI_int_c6 : AC := .reg [⟨some 17, none, .mov (.t 5)⟩, ⟨some 4, none, .mov (.t 17)⟩] [0, 1, 5, 7, 8, 16, 17]
@[simp] theorem sI_int_c6_eq : aw PP sI_int_c6 K env H = awOps PP [⟨some 17, none, .mov (.t 5)⟩, ⟨some 4, none, .mov (.t 17)⟩] (regK K [0, 1, 5, 7, 8, 16, 17]) (panK K) env H := aw_reg _ _
def sI_int_c7 : AC := .seq sI_int_c6 .ret
@[simp] theorem sI_int_c7_eq : aw PP sI_int_c7 K env H = aw PP sI_int_c6 (seqK PP .ret K) env H := aw_seq sI_int_c6 .ret
def sI_int_c8 : AC := .cond (.t 16) sI_int_c7 .skip
@[simp] theorem sI_int_c8_eq : aw PP sI_int_c8 K env H = condQ PP (Opd.ev env (.t 16)) sI_int_c7 .skip K env H := aw_cond _ sI_int_c7 .skip
def sI_int_c9 : AC := .seq sI_int_c5 sI_int_c8
@[simp] theorem sI_int_c9_eq : aw PP sI_int_c9 K env H = aw PP sI_int_c5 (seqK PP sI_int_c8 K) env H := aw_seq sI_int_c5 sI_int_c8
def sI_int_c10 : AC := .seq sI_int_c4 sI_int_c9
@[simp] theorem sI_int_c10_eq : aw PP sI_int_c10 K env H = aw PP sI_int_c4 (seqK PP sI_int_c9 K) env H := aw_seq sI_int_c4 sI_int_c9
def sI_int_c11 : AC := .block 1 sI_int_c10
@[simp] theorem sI_int_c11_eq : aw PP sI_int_c11 K env H = aw PP sI_int_c10 (blockK 1 K) env H := aw_block _ sI_int_c10
def sI_int_c12 : AC := .reg [⟨some 18, none, .bin (.add) (.t 8) (.c (.int (.i64) 1))⟩, ⟨some 8, none, .mov (.t 18)⟩] [5, 16, 18]
@[simp] theorem sI_int_c12_eq : aw PP sI_int_c12 K env H = awOps PP [⟨some 18, none, .bin (.add) (.t 8) (.c (.int (.i64) 1))⟩, ⟨some 8, none, .mov (.t 18)⟩] (regK K [5, 16, 18]) (panK K) env H := aw_reg _ _
def sI_int_c13 : AC := .seq sI_int_c11 sI_int_c12
@[simp] theorem sI_int_c13_eq : aw PP sI_int_c13 K env H = aw PP sI_int_c11 (seqK PP sI_int_c12 K) env H := aw_seq sI_int_c11 sI_int_c12
def sI_int_c14 : AC := .seq sI_int_c3 sI_int_c13
@[simp] theorem sI_int_c14_eq : aw PP sI_int_c14 K env H = aw PP sI_int_c3 (seqK PP sI_int_c13 K) env H := aw_seq sI_int_c3 sI_int_c13
def sI_int_c15 : AC := .seq sI_int_c2 sI_int_c14
@[simp] theorem sI_int_c15_eq : aw PP sI_int_c15 K env H = aw PP sI_int_c2 (seqK PP sI_int_c14 K) env H := aw_seq sI_int_c2 sI_int_c14
def sI_int_c16 : AC := .loop sI_int_c15
def sI_int_c17 : AC := .block 0 sI_int_c16
@[simp] theorem sI_int_c17_eq : aw PP sI_int_c17 K env H = aw PP sI_int_c16 (blockK 0 K) env H := aw_block _ sI_int_c16
def sI_int_c18 : AC := .seq sI_int_c1 sI_int_c17
@[simp] theorem sI_int_c18_eq : aw PP sI_int_c18 K env H = aw PP sI_int_c1 (seqK PP sI_int_c17 K) env H := aw_seq sI_int_c1 sI_int_c17
def sI_int_c19 : AC := .reg [⟨some 4, none, .mov (.c (.int (.i64) (-1)))⟩] [0, 1, 7, 8, 9]
@[simp] theorem sI_int_c19_eq : aw PP sI_int_c19 K env H = awOps PP [⟨some 4, none, .mov (.c (.int (.i64) (-1)))⟩] (regK K [0, 1, 7, 8, 9]) (panK K) env H := aw_reg _ _
def sI_int_c20 : AC := .seq sI_int_c19 .ret
@[simp] theorem sI_int_c20_eq : aw PP sI_int_c20 K env H = aw PP sI_int_c19 (seqK PP .ret K) env H := aw_seq sI_int_c19 .ret
def sI_int_c21 : AC := .seq sI_int_c18 sI_int_c20
@[simp] theorem sI_int_c21_eq : aw PP sI_int_c21 K env H = aw PP sI_int_c18 (seqK PP sI_int_c20 K) env H := aw_seq sI_int_c18 sI_int_c20
def sI_int_c22 : AC := .seq sI_int_c0 sI_int_c21
@[simp] theorem sI_int_c22_eq : aw PP sI_int_c22 K env H = aw PP sI_int_c0 (seqK PP sI_int_c21 K) env H := aw_seq sI_int_c0 sI_int_c21
def sI_int_ac : AC := sI_int_c22
@[simp] theorem sI_int_ac_eq : aw PP sI_int_ac K env H = aw PP sI_int_c22 K env H := Eq.trans rfl rfl
def sI_int_rs : List ARV := [.tmp 4]
abbrev sI_int_id : Nat := 40
theorem sI_int_comp : compF PP sI_int_kl sI_int_ow 2 Tryd.f40 = some (sI_int_ac, sI_int_rs) := by kernel_rfl
theorem sI_int_enter {args : List AV} {H : AHeap} {post : ARes → AHeap → Prop} (ha : args.length = 2) (h : aw PP sI_int_ac (retK sI_int_rs post) (argEnv 0 args) H) : ACalls PP sI_int_id args H post := .enterF Tryd.func40 PP_mix sI_int_comp ha h

/-! emendate.emendateref18.Name -/
def ref18_Name_kl : Nat → List Nat
  | 0 => [2]
  | 1 => [6, 7, 8, 9, 10, 11, 12]
  | 2 => [0, 13]
  | 3 => [13]
  | 4 => [14, 15, 16]
  | 5 => [18, 19, 63]
  | 6 => [17, 20, 21, 22]
  | 7 => [23, 24, 25, 26, 27, 28, 29, 30, 31, 32, 33, 34, 35, 36]
  | 8 => [4, 5, 37, 38, 39, 40, 41, 42, 43, 44, 45, 46, 47, 48, 49, 50, 51, 52, 53, 54, 55, 56, 57, 58, 59, 60, 61, 62]
  | 9 => [0, 3, 63]
  | 10 => [0, 3, 17]
  | _ => []
def ref18_Name_ow : Nat → Nat → Bool := fun _ _ => false
def ref18_Name_c0 : AC := .reg [⟨some 2, none, .mov (.c (.bool false))⟩] [2]
@[simp] theorem ref18_Name_c0_eq : aw PP ref18_Name_c0 K env H = awOps PP [⟨some 2, none, .mov (.c (.bool false))⟩] (regK K [2]) (panK K) env H := aw_reg _ _
def ref18_Name_c1 : AC := .reg [⟨some 6, none, .mov (.t 0)⟩, ⟨some 7, none, .lens (.t 6)⟩, ⟨some 8, none, .bin (.lss) (.t 7) (.c (.int (.i64) 1))⟩, ⟨some 9, none, .mov (.t 8)⟩, ⟨some 10, some (9, false), .mov (.t 0)⟩, ⟨some 11, some (9, false), .lens (.t 10)⟩, ⟨some 12, some (9, false), .bin (.gtr) (.t 11) (.c (.int (.i64) 48))⟩, ⟨some 13, none, .pick (.t 9) (.c (.bool true)) (.t 12)⟩] [6, 7, 8, 9, 10, 11, 12]
@[simp] theorem ref18_Name_c1_eq : aw PP ref18_Name_c1 K env H = awOps PP [⟨some 6, none, .mov (.t 0)⟩, ⟨some 7, none, .lens (.t 6)⟩, ⟨some 8, none, .bin (.lss) (.t 7) (.c (.int (.i64) 1))⟩, ⟨some 9, none, .mov (.t 8)⟩, ⟨some 10, some (9, false), .mov (.t 0)⟩, ⟨some 11, some (9, false), .lens (.t 10)⟩, ⟨some 12, some (9, false), .bin (.gtr) (.t 11) (.c (.int (.i64) 48))⟩, ⟨some 13, none, .pick (.t 9) (.c (.bool true)) (.t 12)⟩] (regK K [6, 7, 8, 9, 10, 11, 12]) (panK K) env H := aw_reg _ _
def ref18_Name_c2 : AC := .reg [⟨some 2, none, .mov (.c (.bool false))⟩] [0, 13]
@[simp] theorem ref18_Name_c2_eq : aw PP ref18_Name_c2 K env H = awOps PP [⟨some 2, none, .mov (.c (.bool false))⟩] (regK K [0, 13]) (panK K) env H := aw_reg _ _
def ref18_Name_c3 : AC := .seq ref18_Name_c2 .ret
@[simp] theorem ref18_Name_c3_eq : aw PP ref18_Name_c3 K env H = aw PP ref18_Name_c2 (seqK PP .ret K) env H := aw_seq ref18_Name_c2 .ret
def ref18_Name_c4 : AC := .cond (.t 13) ref18_Name_c3 .skip
@[simp] theorem ref18_Name_c4_eq : aw PP ref18_Name_c4 K env H = condQ PP (Opd.ev env (.t 13)) ref18_Name_c3 .skip K env H := aw_cond _ ref18_Name_c3 .skip
def ref18_Name_c5 : AC := .seq ref18_Name_c1 ref18_Name_c4
@[simp] theorem ref18_Name_c5_eq : aw PP ref18_Name_c5 K env H = aw PP ref18_Name_c1 (seqK PP ref18_Name_c4 K) env H := aw_seq ref18_Name_c1 ref18_Name_c4
def ref18_Name_c6 : AC := .reg [⟨some 3, none, .mov (.c (.int (.i64) 0))⟩] [13]
@[simp] theorem ref18_Name_c6_eq : aw PP ref18_Name_c6 K env H = awOps PP [⟨some 3, none, .mov (.c (.int (.i64) 0))⟩] (regK K [13]) (panK K) env H := aw_reg _ _
def ref18_Name_c7 : AC := .reg [⟨some 14, none, .mov (.t 3)⟩, ⟨some 15, none, .mov (.t 0)⟩, ⟨some 16, none, .lens (.t 15)⟩, ⟨some 17, none, .bin (.lss) (.t 14) (.t 16)⟩] [14, 15, 16]
@[simp] theorem ref18_Name_c7_eq : aw PP ref18_Name_c7 K env H = awOps PP [⟨some 14, none, .mov (.t 3)⟩, ⟨some 15, none, .mov (.t 0)⟩, ⟨some 16, none, .lens (.t 15)⟩, ⟨some 17, none, .bin (.lss) (.t 14) (.t 16)⟩] (regK K [14, 15, 16]) (panK K) env H := aw_reg _ _
def ref18_Name_c8 : AC := .cond (.t 17) .skip (.exit 0)
@[simp] theorem ref18_Name_c8_eq : aw PP ref18_Name_c8 K env H = condQ PP (Opd.ev env (.t 17)) .skip (.exit 0) K env H := aw_cond _ .skip (.exit 0)
def ref18_Name_c9 : AC := .seq ref18_Name_c7 ref18_Name_c8
@[simp] theorem ref18_Name_c9_eq : aw PP ref18_Name_c9 K env H = aw PP ref18_Name_c7 (seqK PP ref18_Name_c8 K) env H := aw_seq ref18_Name_c7 ref18_Name_c8
def ref18_Name_c10 : AC := .reg [⟨some 20, none, .mov (.t 0)⟩, ⟨some 21, none, .mov (.t 3)⟩, ⟨some 22, none, .ix (.t 20) (.t 21)⟩, ⟨some 4, none, .mov (.t 22)⟩] [17, 20, 21, 22]
@[simp] theorem ref18_Name_c10_eq : aw PP ref18_Name_c10 K env H = awOps PP [⟨some 20, none, .mov (.t 0)⟩, ⟨some 21, none, .mov (.t 3)⟩, ⟨some 22, none, .ix (.t 20) (.t 21)⟩, ⟨some 4, none, .mov (.t 22)⟩] (regK K [17, 20, 21, 22]) (panK K) env H := aw_reg _ _
def ref18_Name_c11 : AC := .reg [⟨some 23, none, .mov (.t 4)⟩, ⟨some 24, none, .bin (.geq) (.t 23) (.c (.int (.u8) 97))⟩, ⟨some 25, none, .mov (.t 24)⟩, ⟨some 26, some (25, true), .mov (.t 4)⟩, ⟨some 27, some (25, true), .bin (.leq) (.t 26) (.c (.int (.u8) 122))⟩, ⟨some 28, none, .pick (.t 25) (.t 27) (.c (.bool false))⟩, ⟨some 29, none, .mov (.t 28)⟩, ⟨some 30, some (29, false), .mov (.t 4)⟩, ⟨some 31, some (29, false), .bin (.geq) (.t 30) (.c (.int (.u8) 65))⟩, ⟨some 32, some (29, false), .mov (.t 31)⟩, ⟨some 33, some (32, true), .mov (.t 4)⟩, ⟨some 34, some (32, true), .bin (.leq) (.t 33) (.c (.int (.u8) 90))⟩, ⟨some 35, some (29, false), .pick (.t 32) (.t 34) (.c (.bool false))⟩, ⟨some 36, none, .pick (.t 29) (.c (.bool true)) (.t 35)⟩, ⟨some 5, none, .mov (.t 36)⟩] [23, 24, 25, 26, 27, 28, 29, 30, 31, 32, 33, 34, 35, 36]
@[simp] theorem ref18_Name_c11_eq : aw PP ref18_Name_c11 K env H = awOps PP [⟨some 23, none, .mov (.t 4)⟩, ⟨some 24, none, .bin (.geq) (.t 23) (.c (.int (.u8) 97))⟩, ⟨some 25, none, .mov (.t 24)⟩, ⟨some 26, some (25, true), .mov (.t 4)⟩, ⟨some 27, some (25, true), .bin (.leq) (.t 26) (.c (.int (.u8) 122))⟩, ⟨some 28, none, .pick (.t 25) (.t 27) (.c (.bool false))⟩, ⟨some 29, none, .mov (.t 28)⟩, ⟨some 30, some (29, false), .mov (.t 4)⟩, ⟨some 31, some (29, false), .bin (.geq) (.t 30) (.c (.int (.u8) 65))⟩, ⟨some 32, some (29, false), .mov (.t 31)⟩, ⟨some 33, some (32, true), .mov (.t 4)⟩, ⟨some 34, some (32, true), .bin (.leq) (.t 33) (.c (.int (.u8) 90))⟩, ⟨some 35, some (29, false), .pick (.t 32) (.t 34) (.c (.bool false))⟩, ⟨some 36, none, .pick (.t 29) (.c (.bool true)) (.t 35)⟩, ⟨some 5, none, .mov (.t 36)⟩] (regK K [23, 24, 25, 26, 27, 28, 29, 30, 31, 32, 33, 34, 35, 36]) (panK K) env H := aw_reg _ _
def ref18_Name_c12 : AC := .reg [⟨some 37, none, .mov (.t 5)⟩, ⟨some 38, none, .not (.t 37)⟩, ⟨some 39, none, .mov (.t 38)⟩, ⟨some 40, some (39, true), .mov (.t 3)⟩, ⟨some 41, some (39, true), .bin (.eql) (.t 40) (.c (.int (.i64) 0))⟩, ⟨some 42, some (39, true), .mov (.t 41)⟩, ⟨some 43, some (42, false), .mov (.t 4)⟩, ⟨some 44, some (42, false), .bin (.geq) (.t 43) (.c (.int (.u8) 48))⟩, ⟨some 45, some (42, false), .mov (.t 44)⟩, ⟨some 46, some (45, true), .mov (.t 4)⟩, ⟨some 47, some (45, true), .bin (.leq) (.t 46) (.c (.int (.u8) 57))⟩, ⟨some 48, some (42, false), .pick (.t 45) (.t 47) (.c (.bool false))⟩, ⟨some 49, some (42, false), .mov (.t 48)⟩, ⟨some 50, some (49, false), .mov (.t 4)⟩, ⟨some 51, some (49, false), .bin (.eql) (.t 50) (.c (.int (.u8) 95))⟩, ⟨some 52, some (42, false), .pick (.t 49) (.c (.bool true)) (.t 51)⟩, ⟨some 53, some (42, false), .mov (.t 52)⟩, ⟨some 54, some (53, false), .mov (.t 4)⟩, ⟨some 55, some (53, false), .bin (.eql) (.t 54) (.c (.int (.u8) 46))⟩, ⟨some 56, some (42, false), .pick (.t 53) (.c (.bool true)) (.t 55)⟩, ⟨some 57, some (42, false), .mov (.t 56)⟩, ⟨some 58, some (57, false), .mov (.t 4)⟩, ⟨some 59, some (57, false), .bin (.eql) (.t 58) (.c (.int (.u8) 64))⟩, ⟨some 60, some (42, false), .pick (.t 57) (.c (.bool true)) (.t 59)⟩, ⟨some 61, some (42, false), .not (.t 60)⟩, ⟨some 62, some (39, true), .pick (.t 42) (.c (.bool true)) (.t 61)⟩, ⟨some 63, none, .pick (.t 39) (.t 62) (.c (.bool false))⟩] [4, 5, 37, 38, 39, 40, 41, 42, 43, 44, 45, 46, 47, 48, 49, 50, 51, 52, 53, 54, 55, 56, 57, 58, 59, 60, 61, 62]
@[simp] theorem ref18_Name_c12_eq : aw PP ref18_Name_c12 K env H = awOps PP [⟨some 37, none, .mov (.t 5)⟩, ⟨some 38, none, .not (.t 37)⟩, ⟨some 39, none, .mov (.t 38)⟩, ⟨some 40, some (39, true), .mov (.t 3)⟩, ⟨some 41, some (39, true), .bin (.eql) (.t 40) (.c (.int (.i64) 0))⟩, ⟨some 42, some (39, true), .mov (.t 41)⟩, ⟨some 43, some (42, false), .mov (.t 4)⟩, ⟨some 44, some (42, false), .bin (.geq) (.t 43) (.c (.int (.u8) 48))⟩, ⟨some 45, some (42, false), .mov (.t 44)⟩, ⟨some 46, some (45, true), .mov (.t 4)⟩, ⟨some 47, some (45, true), .bin (.leq) (.t 46) (.c (.int (.u8) 57))⟩, ⟨some 48, some (42, false), .pick (.t 45) (.t 47) (.c (.bool false))⟩, ⟨some 49, some (42, false), .mov (.t 48)⟩, ⟨some 50, some (49, false), .mov (.t 4)⟩, ⟨some 51, some (49, false), .bin (.eql) (.t 50) (.c (.int (.u8) 95))⟩, ⟨some 52, some (42, false), .pick (.t 49) (.c (.bool true)) (.t 51)⟩, ⟨some 53, some (42, false), .mov (.t 52)⟩, ⟨some 54, some (53, false), .mov (.t 4)⟩, ⟨some 55, some (53, false), .bin (.eql) (.t 54) (.c (.int (.u8) 46))⟩, ⟨some 56, some (42, false), .pick (.t 53) (.c (.bool true)) (.t 55)⟩, ⟨some 57, some (42, false), .mov (.t 56)⟩, ⟨some 58, some (57, false), .mov (.t 4)⟩, ⟨some 59, some (57, false), .bin (.eql) (.t 58) (.c (.int (.u8) 64))⟩, ⟨some 60, some (42, false), .pick (.t 57) (.c (.bool true)) (.t 59)⟩, ⟨some 61, some (42, false), .not (.t 60)⟩, ⟨some 62, some (39, true), .pick (.t 42) (.c (.bool true)) (.t 61)⟩, ⟨some 63, none, .pick (.t 39) (.t 62) (.c (.bool false))⟩] (regK K [4, 5, 37, 38, 39, 40, 41, 42, 43, 44, 45, 46, 47, 48, 49, 50, 51, 52, 53, 54, 55, 56, 57, 58, 59, 60, 61, 62]) (panK K) env H := aw_reg _ _
def ref18_Name_c13 : AC := .reg [⟨some 2, none, .mov (.c (.bool false))⟩] [0, 3, 63]
@[simp] theorem ref18_Name_c13_eq : aw PP ref18_Name_c13 K env H = awOps PP [⟨some 2, none, .mov (.c (.bool false))⟩] (regK K [0, 3, 63]) (panK K) env H := aw_reg _ _
def ref18_Name_c14 : AC := .seq ref18_Name_c13 .ret
@[simp] theorem ref18_Name_c14_eq : aw PP ref18_Name_c14 K env H = aw PP ref18_Name_c13 (seqK PP .ret K) env H := aw_seq ref18_Name_c13 .ret
def ref18_Name_c15 : AC := .cond (.t 63) ref18_Name_c14 .skip
@[simp] theorem ref18_Name_c15_eq : aw PP ref18_Name_c15 K env H = condQ PP (Opd.ev env (.t 63)) ref18_Name_c14 .skip K env H := aw_cond _ ref18_Name_c14 .skip
def ref18_Name_c16 : AC := .seq ref18_Name_c12 ref18_Name_c15
@[simp] theorem ref18_Name_c16_eq : aw PP ref18_Name_c16 K env H = aw PP ref18_Name_c12 (seqK PP ref18_Name_c15 K) env H := aw_seq ref18_Name_c12 ref18_Name_c15
def ref18_Name_c17 : AC := .seq ref18_Name_c11 ref18_Name_c16
@[simp] theorem ref18_Name_c17_eq : aw PP ref18_Name_c17 K env H = aw PP ref18_Name_c11 (seqK PP ref18_Name_c16 K) env H := aw_seq ref18_Name_c11 ref18_Name_c16
def ref18_Name_c18 : AC := .seq ref18_Name_c10 ref18_Name_c17
@[simp] theorem ref18_Name_c18_eq : aw PP ref18_Name_c18 K env H = aw PP ref18_Name_c10 (seqK PP ref18_Name_c17 K) env H := aw_seq ref18_Name_c10 ref18_Name_c17
def ref18_Name_c19 : AC := .block 1 ref18_Name_c18
@[simp] theorem ref18_Name_c19_eq : aw PP ref18_Name_c19 K env H = aw PP ref18_Name_c18 (blockK 1 K) env H := aw_block _ ref18_Name_c18
def ref18_Name_c20 : AC := .reg [⟨some 18, none, .mov (.t 3)⟩, ⟨some 19, none, .bin (.add) (.t 18) (.c (.int (.i64) 1))⟩, ⟨some 3, none, .mov (.t 19)⟩] [18, 19, 63]
@[simp] theorem ref18_Name_c20_eq : aw PP ref18_Name_c20 K env H = awOps PP [⟨some 18, none, .mov (.t 3)⟩, ⟨some 19, none, .bin (.add) (.t 18) (.c (.int (.i64) 1))⟩, ⟨some 3, none, .mov (.t 19)⟩] (regK K [18, 19, 63]) (panK K) env H := aw_reg _ _
def ref18_Name_c21 : AC := .seq ref18_Name_c19 ref18_Name_c20
@[simp] theorem ref18_Name_c21_eq : aw PP ref18_Name_c21 K env H = aw PP ref18_Name_c19 (seqK PP ref18_Name_c20 K) env H := aw_seq ref18_Name_c19 ref18_Name_c20
def ref18_Name_c22 : AC := .seq ref18_Name_c9 ref18_Name_c21
@[simp] theorem ref18_Name_c22_eq : aw PP ref18_Name_c22 K env H = aw PP ref18_Name_c9 (seqK PP ref18_Name_c21 K) env H := aw_seq ref18_Name_c9 ref18_Name_c21
def ref18_Name_c23 : AC := .loop ref18_Name_c22
def ref18_Name_c24 : AC := .block 0 ref18_Name_c23
@[simp] theorem ref18_Name_c24_eq : aw PP ref18_Name_c24 K env H = aw PP ref18_Name_c23 (blockK 0 K) env H := aw_block _ ref18_Name_c23
def ref18_Name_c25 : AC := .seq ref18_Name_c6 ref18_Name_c24
@[simp] theorem ref18_Name_c25_eq : aw PP ref18_Name_c25 K env H = aw PP ref18_Name_c6 (seqK PP ref18_Name_c24 K) env H := aw_seq ref18_Name_c6 ref18_Name_c24
def ref18_Name_c26 : AC := .reg [⟨some 2, none, .mov (.c (.bool true))⟩] [0, 3, 17]
@[simp] theorem ref18_Name_c26_eq : aw PP ref18_Name_c26 K env H = awOps PP [⟨some 2, none, .mov (.c (.bool true))⟩] (regK K [0, 3, 17]) (panK K) env H := aw_reg _ _
def ref18_Name_c27 : AC := .seq ref18_Name_c26 .ret
@[simp] theorem ref18_Name_c27_eq : aw PP ref18_Name_c27 K env H = aw PP ref18_Name_c26 (seqK PP .ret K) env H := aw_seq ref18_Name_c26 .ret
def ref18_Name_c28 : AC := .seq ref18_Name_c25 ref18_Name_c27
@[simp] theorem ref18_Name_c28_eq : aw PP ref18_Name_c28 K env H = aw PP ref18_Name_c25 (seqK PP ref18_Name_c27 K) env H := aw_seq ref18_Name_c25 ref18_Name_c27
def ref18_Name_c29 : AC := .seq ref18_Name_c5 ref18_Name_c28
@[simp] theorem ref18_Name_c29_eq : aw PP ref18_Name_c29 K env H = aw PP ref18_Name_c5 (seqK PP ref18_Name_c28 K) env H := aw_seq ref18_Name_c5 ref18_Name_c28
def ref18_Name_c30 : AC := .seq ref18_Name_c0 ref18_Name_c29
@[simp] theorem ref18_Name_c30_eq : aw PP ref18_Name_c30 K env H = aw PP ref18_Name_c0 (seqK PP ref18_Name_c29 K) env H := aw_seq ref18_Name_c0 ref18_Name_c29
def ref18_Name_ac : AC := ref18_Name_c30
@[simp] theorem ref18_Name_ac_eq : aw PP ref18_Name_ac K env H = aw PP ref18_Name_c30 K env H := Eq.trans rfl rfl
def ref18_Name_rs : List ARV := [.tmp 2]
abbrev ref18_Name_id : Nat := 41
theorem ref18_Name_comp : compF PP ref18_Name_kl ref18_Name_ow 1 Tryd.f41 = some (ref18_Name_ac, ref18_Name_rs) := by kernel_rfl
theorem ref18_Name_enter {args : List AV} {H : AHeap} {post : ARes → AHeap → Prop} (ha : args.length = 1) (h : aw PP ref18_Name_ac (retK ref18_Name_rs post) (argEnv 0 args) H) : ACalls PP ref18_Name_id args H post := .enterF Tryd.func41 PP_mix ref18_Name_comp ha h

/-! emendate.grammar.letter -/
def grammar_letter_kl : Nat → List Nat
  | 0 => [2]
  | 1 => [0, 3, 4, 5, 6, 7, 8, 9, 10, 11, 12, 13, 14, 15, 16]
  | _ => []
def grammar_letter_ow : Nat → Nat → Bool := fun _ _ => false
def grammar_letter_c0 : AC := .reg [⟨some 2, none, .mov (.c (.bool false))⟩] [2]
@[simp] theorem grammar_letter_c0_eq : aw PP grammar_letter_c0 K env H = awOps PP [⟨some 2, none, .mov (.c (.bool false))⟩] (regK K [2]) (panK K) env H := aw_reg _ _
def grammar_letter_c1 : AC := .reg [⟨some 3, none, .mov (.t 0)⟩, ⟨some 4, none, .bin (.geq) (.t 3) (.c (.int (.u8) 97))⟩, ⟨some 5, none, .mov (.t 4)⟩, ⟨some 6, some (5, true), .mov (.t 0)⟩, ⟨some 7, some (5, true), .bin (.leq) (.t 6) (.c (.int (.u8) 122))⟩, ⟨some 8, none, .pick (.t 5) (.t 7) (.c (.bool false))⟩, ⟨some 9, none, .mov (.t 8)⟩, ⟨some 10, some (9, false), .mov (.t 0)⟩, ⟨some 11, some (9, false), .bin (.geq) (.t 10) (.c (.int (.u8) 65))⟩, ⟨some 12, some (9, false), .mov (.t 11)⟩, ⟨some 13, some (12, true), .mov (.t 0)⟩, ⟨some 14, some (12, true), .bin (.leq) (.t 13) (.c (.int (.u8) 90))⟩, ⟨some 15, some (9, false), .pick (.t 12) (.t 14) (.c (.bool false))⟩, ⟨some 16, none, .pick (.t 9) (.c (.bool true)) (.t 15)⟩, ⟨some 2, none, .mov (.t 16)⟩] [0, 3, 4, 5, 6, 7, 8, 9, 10, 11, 12, 13, 14, 15, 16]
@[simp] theorem grammar_letter_c1_eq : aw PP grammar_letter_c1 K env H = awOps PP [⟨some 3, none, .mov (.t 0)⟩, ⟨some 4, none, .bin (.geq) (.t 3) (.c (.int (.u8) 97))⟩, ⟨some 5, none, .mov (.t 4)⟩, ⟨some 6, some (5, true), .mov (.t 0)⟩, ⟨some 7, some (5, true), .bin (.leq) (.t 6) (.c (.int (.u8) 122))⟩, ⟨some 8, none, .pick (.t 5) (.t 7) (.c (.bool false))⟩, ⟨some 9, none, .mov (.t 8)⟩, ⟨some 10, some (9, false), .mov (.t 0)⟩, ⟨some 11, some (9, false), .bin (.geq) (.t 10) (.c (.int (.u8) 65))⟩, ⟨some 12, some (9, false), .mov (.t 11)⟩, ⟨some 13, some (12, true), .mov (.t 0)⟩, ⟨some 14, some (12, true), .bin (.leq) (.t 13) (.c (.int (.u8) 90))⟩, ⟨some 15, some (9, false), .pick (.t 12) (.t 14) (.c (.bool false))⟩, ⟨some 16, none, .pick (.t 9) (.c (.bool true)) (.t 15)⟩, ⟨some 2, none, .mov (.t 16)⟩] (regK K [0, 3, 4, 5, 6, 7, 8, 9, 10, 11, 12, 13, 14, 15, 16]) (panK K) env H := aw_reg _ _
def grammar_letter_c2 : AC := .seq grammar_letter_c1 .ret
@[simp] theorem grammar_letter_c2_eq : aw PP grammar_letter_c2 K env H = aw PP grammar_letter_c1 (seqK PP .ret K) env H := aw_seq grammar_letter_c1 .ret
def grammar_letter_c3 : AC := .seq grammar_letter_c0 grammar_letter_c2
@[simp] theorem grammar_letter_c3_eq : aw PP grammar_letter_c3 K env H = aw PP grammar_letter_c0 (seqK PP grammar_letter_c2 K) env H := aw_seq grammar_letter_c0 grammar_letter_c2
def grammar_letter_ac : AC := grammar_letter_c3
@[simp] theorem grammar_letter_ac_eq : aw PP grammar_letter_ac K env H = aw PP grammar_letter_c3 K env H := Eq.trans rfl rfl
def grammar_letter_rs : List ARV := [.tmp 2]
abbrev grammar_letter_id : Nat := 45
theorem grammar_letter_comp : compF PP grammar_letter_kl grammar_letter_ow 1 Tryd.f45 = some (grammar_letter_ac, grammar_letter_rs) := by kernel_rfl
theorem grammar_letter_enter {args : List AV} {H : AHeap} {post : ARes → AHeap → Prop} (ha : args.length = 1) (h : aw PP grammar_letter_ac (retK grammar_letter_rs post) (argEnv 0 args) H) : ACalls PP grammar_letter_id args H post := .enterF Tryd.func45 PP_mix grammar_letter_comp ha h

end Go.Av
