/- Functions of the given program, compiled to the own form by program. -/
import Derived.Test.YtondhmpdmbjmdaaDoorProg
import Derived.KernelRfl
import Derived.Test.YtondhmpdmbjmdaaDoorAvF
import Derived.Test.YtondhmpdmbjmdaaDoorFnsB
set_option linter.unusedVariables false
set_option linter.unusedSimpArgs false
namespace Go.Av
open Go Go.Proofs
variable {K : AK} {env : Env} {H : AHeap}
/-! emendate.grammarfile.Valid -/
def gF_Valid_kl : Nat → List Nat
  | 0 => [0, 2]
  | 1 => [9, 10, 11, 12, 13, 14, 15, 16, 17]
  | 2 => [1, 18]
  | 3 => [18]
  | 4 => [19]
  | 6 => [23, 24, 25]
  | 7 => [26, 27]
  | 8 => [1, 3, 4, 6, 20, 21, 22, 28]
  | 9 => [6, 28, 29, 30, 31, 32, 33]
  | 10 => [34]
  | 11 => [20, 21, 22, 23, 35]
  | 13 => [39, 40, 41]
  | 14 => [42, 43, 44, 45, 46, 47, 48, 49, 50, 51, 52, 53, 54]
  | 15 => [1, 3, 4, 8, 36, 37, 38, 55]
  | 16 => [8, 55, 56, 57, 58, 59]
  | 17 => [60]
  | 18 => [1, 3, 4, 36, 37, 38, 39, 61, 62, 63, 64, 65, 66, 67, 68, 69, 70, 71, 72]
  | _ => []
def gF_Valid_ow : Nat → Nat → Bool := fun _ _ => false
def gF_Valid_c0 : AC := .reg [⟨some 1, none, .box (.t 0) 3 25⟩, ⟨some 2, none, .mov (.c (.bool false))⟩] [0, 2]
@[simp] theorem gF_Valid_c0_eq : aw PP gF_Valid_c0 K env H = awOps PP [⟨some 1, none, .box (.t 0) 3 25⟩, ⟨some 2, none, .mov (.c (.bool false))⟩] (regK K [0, 2]) (panK K) env H := aw_reg _ _
def gF_Valid_c1 : AC := .reg [⟨some 9, none, .fa 2 2 (.t 1)⟩, ⟨some 10, none, .ld false 1 (.t 9)⟩, ⟨some 11, none, .lenl (.t 10)⟩, ⟨some 12, none, .bin (.lss) (.t 11) (.c (.int (.i64) 1))⟩, ⟨some 13, none, .mov (.t 12)⟩, ⟨some 14, some (13, false), .fa 2 2 (.t 1)⟩, ⟨some 15, some (13, false), .ld false 1 (.t 14)⟩, ⟨some 16, some (13, false), .lenl (.t 15)⟩, ⟨some 17, some (13, false), .bin (.gtr) (.t 16) (.c (.int (.i64) 120))⟩, ⟨some 18, none, .pick (.t 13) (.c (.bool true)) (.t 17)⟩] [9, 10, 11, 12, 13, 14, 15, 16, 17]
@[simp] theorem gF_Valid_c1_eq : aw PP gF_Valid_c1 K env H = awOps PP [⟨some 9, none, .fa 2 2 (.t 1)⟩, ⟨some 10, none, .ld false 1 (.t 9)⟩, ⟨some 11, none, .lenl (.t 10)⟩, ⟨some 12, none, .bin (.lss) (.t 11) (.c (.int (.i64) 1))⟩, ⟨some 13, none, .mov (.t 12)⟩, ⟨some 14, some (13, false), .fa 2 2 (.t 1)⟩, ⟨some 15, some (13, false), .ld false 1 (.t 14)⟩, ⟨some 16, some (13, false), .lenl (.t 15)⟩, ⟨some 17, some (13, false), .bin (.gtr) (.t 16) (.c (.int (.i64) 120))⟩, ⟨some 18, none, .pick (.t 13) (.c (.bool true)) (.t 17)⟩] (regK K [9, 10, 11, 12, 13, 14, 15, 16, 17]) (panK K) env H := aw_reg _ _
def gF_Valid_c2 : AC := .reg [⟨some 2, none, .mov (.c (.bool false))⟩] [1, 18]
@[simp] theorem gF_Valid_c2_eq : aw PP gF_Valid_c2 K env H = awOps PP [⟨some 2, none, .mov (.c (.bool false))⟩] (regK K [1, 18]) (panK K) env H := aw_reg _ _
def gF_Valid_c3 : AC := .seq gF_Valid_c2 .ret
@[simp] theorem gF_Valid_c3_eq : aw PP gF_Valid_c3 K env H = aw PP gF_Valid_c2 (seqK PP .ret K) env H := aw_seq gF_Valid_c2 .ret
def gF_Valid_c4 : AC := .cond (.t 18) gF_Valid_c3 .skip
@[simp] theorem gF_Valid_c4_eq : aw PP gF_Valid_c4 K env H = condQ PP (Opd.ev env (.t 18)) gF_Valid_c3 .skip K env H := aw_cond _ gF_Valid_c3 .skip
def gF_Valid_c5 : AC := .seq gF_Valid_c1 gF_Valid_c4
@[simp] theorem gF_Valid_c5_eq : aw PP gF_Valid_c5 K env H = aw PP gF_Valid_c1 (seqK PP gF_Valid_c4 K) env H := aw_seq gF_Valid_c1 gF_Valid_c4
def gF_Valid_c6 : AC := .reg [⟨some 3, none, .mov (.c (.nils))⟩, ⟨some 4, none, .mov (.c (.nils))⟩] [18]
@[simp] theorem gF_Valid_c6_eq : aw PP gF_Valid_c6 K env H = awOps PP [⟨some 3, none, .mov (.c (.nils))⟩, ⟨some 4, none, .mov (.c (.nils))⟩] (regK K [18]) (panK K) env H := aw_reg _ _
def gF_Valid_c7 : AC := .reg [⟨some 19, none, .fa 2 2 (.t 1)⟩, ⟨some 20, none, .ld false 1 (.t 19)⟩, ⟨some 21, none, .lenl (.t 20)⟩, ⟨some 22, none, .mov (.c (.int (.i64) 0))⟩] [19]
@[simp] theorem gF_Valid_c7_eq : aw PP gF_Valid_c7 K env H = awOps PP [⟨some 19, none, .fa 2 2 (.t 1)⟩, ⟨some 20, none, .ld false 1 (.t 19)⟩, ⟨some 21, none, .lenl (.t 20)⟩, ⟨some 22, none, .mov (.c (.int (.i64) 0))⟩] (regK K [19]) (panK K) env H := aw_reg _ _
def gF_Valid_c8 : AC := .reg [⟨some 23, none, .bin (.lss) (.t 22) (.t 21)⟩] []
@[simp] theorem gF_Valid_c8_eq : aw PP gF_Valid_c8 K env H = awOps PP [⟨some 23, none, .bin (.lss) (.t 22) (.t 21)⟩] (regK K []) (panK K) env H := aw_reg _ _
def gF_Valid_c9 : AC := .cond (.t 23) .skip (.exit 0)
@[simp] theorem gF_Valid_c9_eq : aw PP gF_Valid_c9 K env H = condQ PP (Opd.ev env (.t 23)) .skip (.exit 0) K env H := aw_cond _ .skip (.exit 0)
def gF_Valid_c10 : AC := .reg [⟨some 24, none, .ixa 2 (.t 20) (.t 22)⟩, ⟨some 25, none, .ld true 2 (.t 24)⟩, ⟨some 6, none, .alloc (.struct [.str [], .nils]) 41⟩, ⟨none, none, .st 2 (.t 6) (.t 25)⟩] [23, 24, 25]
@[simp] theorem gF_Valid_c10_eq : aw PP gF_Valid_c10 K env H = awOps PP [⟨some 24, none, .ixa 2 (.t 20) (.t 22)⟩, ⟨some 25, none, .ld true 2 (.t 24)⟩, ⟨some 6, none, .alloc (.struct [.str [], .nils]) 41⟩, ⟨none, none, .st 2 (.t 6) (.t 25)⟩] (regK K [23, 24, 25]) (panK K) env H := aw_reg _ _
def gF_Valid_c11 : AC := .reg [⟨some 26, none, .ld true 2 (.t 6)⟩, ⟨some 27, none, .call (.c (.fn (.func 25) [] [])) [.t 26]⟩, ⟨some 28, none, .not (.t 27)⟩] [26, 27]
@[simp] theorem gF_Valid_c11_eq : aw PP gF_Valid_c11 K env H = awOps PP [⟨some 26, none, .ld true 2 (.t 6)⟩, ⟨some 27, none, .call (.c (.fn (.func 25) [] [])) [.t 26]⟩, ⟨some 28, none, .not (.t 27)⟩] (regK K [26, 27]) (panK K) env H := aw_reg _ _
def gF_Valid_c12 : AC := .reg [⟨some 2, none, .mov (.c (.bool false))⟩] [1, 3, 4, 6, 20, 21, 22, 28]
@[simp] theorem gF_Valid_c12_eq : aw PP gF_Valid_c12 K env H = awOps PP [⟨some 2, none, .mov (.c (.bool false))⟩] (regK K [1, 3, 4, 6, 20, 21, 22, 28]) (panK K) env H := aw_reg _ _
def gF_Valid_c13 : AC := .seq gF_Valid_c12 .ret
@[simp] theorem gF_Valid_c13_eq : aw PP gF_Valid_c13 K env H = aw PP gF_Valid_c12 (seqK PP .ret K) env H := aw_seq gF_Valid_c12 .ret
def gF_Valid_c14 : AC := .cond (.t 28) gF_Valid_c13 .skip
@[simp] theorem gF_Valid_c14_eq : aw PP gF_Valid_c14 K env H = condQ PP (Opd.ev env (.t 28)) gF_Valid_c13 .skip K env H := aw_cond _ gF_Valid_c13 .skip
def gF_Valid_c15 : AC := .seq gF_Valid_c11 gF_Valid_c14
@[simp] theorem gF_Valid_c15_eq : aw PP gF_Valid_c15 K env H = aw PP gF_Valid_c11 (seqK PP gF_Valid_c14 K) env H := aw_seq gF_Valid_c11 gF_Valid_c14
def gF_Valid_c16 : AC := .reg [⟨some 29, none, .mov (.t 3)⟩, ⟨some 30, none, .fa 0 0 (.t 6)⟩, ⟨some 31, none, .ld false 1 (.t 30)⟩, ⟨some 32, none, .bsl false 9 1 1 (.str []) [(0, .t 31)]⟩, ⟨some 33, none, .app 9 1 16 (.t 29) (.t 32)⟩, ⟨some 3, none, .mov (.t 33)⟩] [6, 28, 29, 30, 31, 32, 33]
@[simp] theorem gF_Valid_c16_eq : aw PP gF_Valid_c16 K env H = awOps PP [⟨some 29, none, .mov (.t 3)⟩, ⟨some 30, none, .fa 0 0 (.t 6)⟩, ⟨some 31, none, .ld false 1 (.t 30)⟩, ⟨some 32, none, .bsl false 9 1 1 (.str []) [(0, .t 31)]⟩, ⟨some 33, none, .app 9 1 16 (.t 29) (.t 32)⟩, ⟨some 3, none, .mov (.t 33)⟩] (regK K [6, 28, 29, 30, 31, 32, 33]) (panK K) env H := aw_reg _ _
def gF_Valid_c17 : AC := .seq gF_Valid_c15 gF_Valid_c16
@[simp] theorem gF_Valid_c17_eq : aw PP gF_Valid_c17 K env H = aw PP gF_Valid_c15 (seqK PP gF_Valid_c16 K) env H := aw_seq gF_Valid_c15 gF_Valid_c16
def gF_Valid_c18 : AC := .seq gF_Valid_c10 gF_Valid_c17
@[simp] theorem gF_Valid_c18_eq : aw PP gF_Valid_c18 K env H = aw PP gF_Valid_c10 (seqK PP gF_Valid_c17 K) env H := aw_seq gF_Valid_c10 gF_Valid_c17
def gF_Valid_c19 : AC := .block 1 gF_Valid_c18
@[simp] theorem gF_Valid_c19_eq : aw PP gF_Valid_c19 K env H = aw PP gF_Valid_c18 (blockK 1 K) env H := aw_block _ gF_Valid_c18
def gF_Valid_c20 : AC := .reg [⟨some 34, none, .bin (.add) (.t 22) (.c (.int (.i64) 1))⟩, ⟨some 22, none, .mov (.t 34)⟩] [34]
@[simp] theorem gF_Valid_c20_eq : aw PP gF_Valid_c20 K env H = awOps PP [⟨some 34, none, .bin (.add) (.t 22) (.c (.int (.i64) 1))⟩, ⟨some 22, none, .mov (.t 34)⟩] (regK K [34]) (panK K) env H := aw_reg _ _
def gF_Valid_c21 : AC := .seq gF_Valid_c19 gF_Valid_c20
@[simp] theorem gF_Valid_c21_eq : aw PP gF_Valid_c21 K env H = aw PP gF_Valid_c19 (seqK PP gF_Valid_c20 K) env H := aw_seq gF_Valid_c19 gF_Valid_c20
def gF_Valid_c22 : AC := .seq gF_Valid_c9 gF_Valid_c21
@[simp] theorem gF_Valid_c22_eq : aw PP gF_Valid_c22 K env H = aw PP gF_Valid_c9 (seqK PP gF_Valid_c21 K) env H := aw_seq gF_Valid_c9 gF_Valid_c21
def gF_Valid_c23 : AC := .seq gF_Valid_c8 gF_Valid_c22
@[simp] theorem gF_Valid_c23_eq : aw PP gF_Valid_c23 K env H = aw PP gF_Valid_c8 (seqK PP gF_Valid_c22 K) env H := aw_seq gF_Valid_c8 gF_Valid_c22
def gF_Valid_c24 : AC := .loop gF_Valid_c23
def gF_Valid_c25 : AC := .block 0 gF_Valid_c24
@[simp] theorem gF_Valid_c25_eq : aw PP gF_Valid_c25 K env H = aw PP gF_Valid_c24 (blockK 0 K) env H := aw_block _ gF_Valid_c24
def gF_Valid_c26 : AC := .seq gF_Valid_c7 gF_Valid_c25
@[simp] theorem gF_Valid_c26_eq : aw PP gF_Valid_c26 K env H = aw PP gF_Valid_c7 (seqK PP gF_Valid_c25 K) env H := aw_seq gF_Valid_c7 gF_Valid_c25
def gF_Valid_c27 : AC := .reg [⟨some 35, none, .fa 1 1 (.t 1)⟩, ⟨some 36, none, .ld false 1 (.t 35)⟩, ⟨some 37, none, .lenl (.t 36)⟩, ⟨some 38, none, .mov (.c (.int (.i64) 0))⟩] [20, 21, 22, 23, 35]
@[simp] theorem gF_Valid_c27_eq : aw PP gF_Valid_c27 K env H = awOps PP [⟨some 35, none, .fa 1 1 (.t 1)⟩, ⟨some 36, none, .ld false 1 (.t 35)⟩, ⟨some 37, none, .lenl (.t 36)⟩, ⟨some 38, none, .mov (.c (.int (.i64) 0))⟩] (regK K [20, 21, 22, 23, 35]) (panK K) env H := aw_reg _ _
def gF_Valid_c28 : AC := .reg [⟨some 39, none, .bin (.lss) (.t 38) (.t 37)⟩] []
@[simp] theorem gF_Valid_c28_eq : aw PP gF_Valid_c28 K env H = awOps PP [⟨some 39, none, .bin (.lss) (.t 38) (.t 37)⟩] (regK K []) (panK K) env H := aw_reg _ _
def gF_Valid_c29 : AC := .cond (.t 39) .skip (.exit 2)
@[simp] theorem gF_Valid_c29_eq : aw PP gF_Valid_c29 K env H = condQ PP (Opd.ev env (.t 39)) .skip (.exit 2) K env H := aw_cond _ .skip (.exit 2)
def gF_Valid_c30 : AC := .reg [⟨some 40, none, .ixa 2 (.t 36) (.t 38)⟩, ⟨some 41, none, .ld true 2 (.t 40)⟩, ⟨some 8, none, .alloc (.struct [.int (.i64) 0, .nils]) 51⟩, ⟨none, none, .st 2 (.t 8) (.t 41)⟩] [39, 40, 41]
@[simp] theorem gF_Valid_c30_eq : aw PP gF_Valid_c30 K env H = awOps PP [⟨some 40, none, .ixa 2 (.t 36) (.t 38)⟩, ⟨some 41, none, .ld true 2 (.t 40)⟩, ⟨some 8, none, .alloc (.struct [.int (.i64) 0, .nils]) 51⟩, ⟨none, none, .st 2 (.t 8) (.t 41)⟩] (regK K [39, 40, 41]) (panK K) env H := aw_reg _ _
def gF_Valid_c31 : AC := .reg [⟨some 42, none, .fa 0 0 (.t 8)⟩, ⟨some 43, none, .ld false 1 (.t 42)⟩, ⟨some 44, none, .bin (.lss) (.t 43) (.c (.int (.i64) 1))⟩, ⟨some 45, none, .mov (.t 44)⟩, ⟨some 46, some (45, false), .fa 0 0 (.t 8)⟩, ⟨some 47, some (45, false), .ld false 1 (.t 46)⟩, ⟨some 48, some (45, false), .bin (.gtr) (.t 47) (.c (.int (.i64) 3))⟩, ⟨some 49, none, .pick (.t 45) (.c (.bool true)) (.t 48)⟩, ⟨some 50, none, .mov (.t 49)⟩, ⟨some 51, some (50, false), .fa 1 1 (.t 8)⟩, ⟨some 52, some (50, false), .ld false 1 (.t 51)⟩, ⟨some 53, some (50, false), .lenl (.t 52)⟩, ⟨some 54, some (50, false), .bin (.eql) (.t 53) (.c (.int (.i64) 0))⟩, ⟨some 55, none, .pick (.t 50) (.c (.bool true)) (.t 54)⟩] [42, 43, 44, 45, 46, 47, 48, 49, 50, 51, 52, 53, 54]
@[simp] theorem gF_Valid_c31_eq : aw PP gF_Valid_c31 K env H = awOps PP [⟨some 42, none, .fa 0 0 (.t 8)⟩, ⟨some 43, none, .ld false 1 (.t 42)⟩, ⟨some 44, none, .bin (.lss) (.t 43) (.c (.int (.i64) 1))⟩, ⟨some 45, none, .mov (.t 44)⟩, ⟨some 46, some (45, false), .fa 0 0 (.t 8)⟩, ⟨some 47, some (45, false), .ld false 1 (.t 46)⟩, ⟨some 48, some (45, false), .bin (.gtr) (.t 47) (.c (.int (.i64) 3))⟩, ⟨some 49, none, .pick (.t 45) (.c (.bool true)) (.t 48)⟩, ⟨some 50, none, .mov (.t 49)⟩, ⟨some 51, some (50, false), .fa 1 1 (.t 8)⟩, ⟨some 52, some (50, false), .ld false 1 (.t 51)⟩, ⟨some 53, some (50, false), .lenl (.t 52)⟩, ⟨some 54, some (50, false), .bin (.eql) (.t 53) (.c (.int (.i64) 0))⟩, ⟨some 55, none, .pick (.t 50) (.c (.bool true)) (.t 54)⟩] (regK K [42, 43, 44, 45, 46, 47, 48, 49, 50, 51, 52, 53, 54]) (panK K) env H := aw_reg _ _
def gF_Valid_c32 : AC := .reg [⟨some 2, none, .mov (.c (.bool false))⟩] [1, 3, 4, 8, 36, 37, 38, 55]
@[simp] theorem gF_Valid_c32_eq : aw PP gF_Valid_c32 K env H = awOps PP [⟨some 2, none, .mov (.c (.bool false))⟩] (regK K [1, 3, 4, 8, 36, 37, 38, 55]) (panK K) env H := aw_reg _ _
def gF_Valid_c33 : AC := .seq gF_Valid_c32 .ret
@[simp] theorem gF_Valid_c33_eq : aw PP gF_Valid_c33 K env H = aw PP gF_Valid_c32 (seqK PP .ret K) env H := aw_seq gF_Valid_c32 .ret
def gF_Valid_c34 : AC := .cond (.t 55) gF_Valid_c33 .skip
@[simp] theorem gF_Valid_c34_eq : aw PP gF_Valid_c34 K env H = condQ PP (Opd.ev env (.t 55)) gF_Valid_c33 .skip K env H := aw_cond _ gF_Valid_c33 .skip
def gF_Valid_c35 : AC := .seq gF_Valid_c31 gF_Valid_c34
@[simp] theorem gF_Valid_c35_eq : aw PP gF_Valid_c35 K env H = aw PP gF_Valid_c31 (seqK PP gF_Valid_c34 K) env H := aw_seq gF_Valid_c31 gF_Valid_c34
def gF_Valid_c36 : AC := .reg [⟨some 56, none, .mov (.t 4)⟩, ⟨some 57, none, .fa 1 1 (.t 8)⟩, ⟨some 58, none, .ld false 1 (.t 57)⟩, ⟨some 59, none, .app 9 1 16 (.t 56) (.t 58)⟩, ⟨some 4, none, .mov (.t 59)⟩] [8, 55, 56, 57, 58, 59]
@[simp] theorem gF_Valid_c36_eq : aw PP gF_Valid_c36 K env H = awOps PP [⟨some 56, none, .mov (.t 4)⟩, ⟨some 57, none, .fa 1 1 (.t 8)⟩, ⟨some 58, none, .ld false 1 (.t 57)⟩, ⟨some 59, none, .app 9 1 16 (.t 56) (.t 58)⟩, ⟨some 4, none, .mov (.t 59)⟩] (regK K [8, 55, 56, 57, 58, 59]) (panK K) env H := aw_reg _ _
def gF_Valid_c37 : AC := .seq gF_Valid_c35 gF_Valid_c36
@[simp] theorem gF_Valid_c37_eq : aw PP gF_Valid_c37 K env H = aw PP gF_Valid_c35 (seqK PP gF_Valid_c36 K) env H := aw_seq gF_Valid_c35 gF_Valid_c36
def gF_Valid_c38 : AC := .seq gF_Valid_c30 gF_Valid_c37
@[simp] theorem gF_Valid_c38_eq : aw PP gF_Valid_c38 K env H = aw PP gF_Valid_c30 (seqK PP gF_Valid_c37 K) env H := aw_seq gF_Valid_c30 gF_Valid_c37
def gF_Valid_c39 : AC := .block 3 gF_Valid_c38
@[simp] theorem gF_Valid_c39_eq : aw PP gF_Valid_c39 K env H = aw PP gF_Valid_c38 (blockK 3 K) env H := aw_block _ gF_Valid_c38
def gF_Valid_c40 : AC := .reg [⟨some 60, none, .bin (.add) (.t 38) (.c (.int (.i64) 1))⟩, ⟨some 38, none, .mov (.t 60)⟩] [60]
@[simp] theorem gF_Valid_c40_eq : aw PP gF_Valid_c40 K env H = awOps PP [⟨some 60, none, .bin (.add) (.t 38) (.c (.int (.i64) 1))⟩, ⟨some 38, none, .mov (.t 60)⟩] (regK K [60]) (panK K) env H := aw_reg _ _
def gF_Valid_c41 : AC := .seq gF_Valid_c39 gF_Valid_c40
@[simp] theorem gF_Valid_c41_eq : aw PP gF_Valid_c41 K env H = aw PP gF_Valid_c39 (seqK PP gF_Valid_c40 K) env H := aw_seq gF_Valid_c39 gF_Valid_c40
def gF_Valid_c42 : AC := .seq gF_Valid_c29 gF_Valid_c41
@[simp] theorem gF_Valid_c42_eq : aw PP gF_Valid_c42 K env H = aw PP gF_Valid_c29 (seqK PP gF_Valid_c41 K) env H := aw_seq gF_Valid_c29 gF_Valid_c41
def gF_Valid_c43 : AC := .seq gF_Valid_c28 gF_Valid_c42
@[simp] theorem gF_Valid_c43_eq : aw PP gF_Valid_c43 K env H = aw PP gF_Valid_c28 (seqK PP gF_Valid_c42 K) env H := aw_seq gF_Valid_c28 gF_Valid_c42
def gF_Valid_c44 : AC := .loop gF_Valid_c43
def gF_Valid_c45 : AC := .block 2 gF_Valid_c44
@[simp] theorem gF_Valid_c45_eq : aw PP gF_Valid_c45 K env H = aw PP gF_Valid_c44 (blockK 2 K) env H := aw_block _ gF_Valid_c44
def gF_Valid_c46 : AC := .seq gF_Valid_c27 gF_Valid_c45
@[simp] theorem gF_Valid_c46_eq : aw PP gF_Valid_c46 K env H = aw PP gF_Valid_c27 (seqK PP gF_Valid_c45 K) env H := aw_seq gF_Valid_c27 gF_Valid_c45
def gF_Valid_c47 : AC := .reg [⟨some 61, none, .mov (.t 3)⟩, ⟨some 62, none, .call (.c (.fn (.func 26) [] [])) [.t 61]⟩, ⟨some 63, none, .mov (.t 62)⟩, ⟨some 64, some (63, true), .mov (.t 4)⟩, ⟨some 65, some (63, true), .call (.c (.fn (.func 26) [] [])) [.t 64]⟩, ⟨some 66, none, .pick (.t 63) (.t 65) (.c (.bool false))⟩, ⟨some 67, none, .mov (.t 66)⟩, ⟨some 68, some (67, true), .mov (.t 3)⟩, ⟨some 69, some (67, true), .fa 0 0 (.t 1)⟩, ⟨some 70, some (67, true), .ld false 1 (.t 69)⟩, ⟨some 71, some (67, true), .call (.c (.fn (.func 27) [] [])) [.t 68, .t 70]⟩, ⟨some 72, none, .pick (.t 67) (.t 71) (.c (.bool false))⟩, ⟨some 2, none, .mov (.t 72)⟩] [1, 3, 4, 36, 37, 38, 39, 61, 62, 63, 64, 65, 66, 67, 68, 69, 70, 71, 72]
@[simp] theorem gF_Valid_c47_eq : aw PP gF_Valid_c47 K env H = awOps PP [⟨some 61, none, .mov (.t 3)⟩, ⟨some 62, none, .call (.c (.fn (.func 26) [] [])) [.t 61]⟩, ⟨some 63, none, .mov (.t 62)⟩, ⟨some 64, some (63, true), .mov (.t 4)⟩, ⟨some 65, some (63, true), .call (.c (.fn (.func 26) [] [])) [.t 64]⟩, ⟨some 66, none, .pick (.t 63) (.t 65) (.c (.bool false))⟩, ⟨some 67, none, .mov (.t 66)⟩, ⟨some 68, some (67, true), .mov (.t 3)⟩, ⟨some 69, some (67, true), .fa 0 0 (.t 1)⟩, ⟨some 70, some (67, true), .ld false 1 (.t 69)⟩, ⟨some 71, some (67, true), .call (.c (.fn (.func 27) [] [])) [.t 68, .t 70]⟩, ⟨some 72, none, .pick (.t 67) (.t 71) (.c (.bool false))⟩, ⟨some 2, none, .mov (.t 72)⟩] (regK K [1, 3, 4, 36, 37, 38, 39, 61, 62, 63, 64, 65, 66, 67, 68, 69, 70, 71, 72]) (panK K) env H := aw_reg _ _
def gF_Valid_c48 : AC := .seq gF_Valid_c47 .ret
@[simp] theorem gF_Valid_c48_eq : aw PP gF_Valid_c48 K env H = aw PP gF_Valid_c47 (seqK PP .ret K) env H := aw_seq gF_Valid_c47 .ret
def gF_Valid_c49 : AC := .seq gF_Valid_c46 gF_Valid_c48
@[simp] theorem gF_Valid_c49_eq : aw PP gF_Valid_c49 K env H = aw PP gF_Valid_c46 (seqK PP gF_Valid_c48 K) env H := aw_seq gF_Valid_c46 gF_Valid_c48
def gF_Valid_c50 : AC := .seq gF_Valid_c26 gF_Valid_c49
@[simp] theorem gF_Valid_c50_eq : aw PP gF_Valid_c50 K env H = aw PP gF_Valid_c26 (seqK PP gF_Valid_c49 K) env H := aw_seq gF_Valid_c26 gF_Valid_c49
def gF_Valid_c51 : AC := .seq gF_Valid_c6 gF_Valid_c50
@[simp] theorem gF_Valid_c51_eq : aw PP gF_Valid_c51 K env H = aw PP gF_Valid_c6 (seqK PP gF_Valid_c50 K) env H := aw_seq gF_Valid_c6 gF_Valid_c50
def gF_Valid_c52 : AC := .seq gF_Valid_c5 gF_Valid_c51
@[simp] theorem gF_Valid_c52_eq : aw PP gF_Valid_c52 K env H = aw PP gF_Valid_c5 (seqK PP gF_Valid_c51 K) env H := aw_seq gF_Valid_c5 gF_Valid_c51
def gF_Valid_c53 : AC := .seq gF_Valid_c0 gF_Valid_c52
@[simp] theorem gF_Valid_c53_eq : aw PP gF_Valid_c53 K env H = aw PP gF_Valid_c0 (seqK PP gF_Valid_c52 K) env H := aw_seq gF_Valid_c0 gF_Valid_c52
def gF_Valid_ac : AC := gF_Valid_c53
@[simp] theorem gF_Valid_ac_eq : aw PP gF_Valid_ac K env H = aw PP gF_Valid_c53 K env H := Eq.trans rfl rfl
def gF_Valid_rs : List ARV := [.tmp 2]
abbrev gF_Valid_id : Nat := 13
theorem gF_Valid_comp : compF PP gF_Valid_kl gF_Valid_ow 1 Tryd.f13 = some (gF_Valid_ac, gF_Valid_rs) := by kernel_rfl
theorem gF_Valid_enter {args : List AV} {H : AHeap} {post : ARes → AHeap → Prop} (ha : args.length = 1) (h : aw PP gF_Valid_ac (retK gF_Valid_rs post) (argEnv 0 args) H) : ACalls PP gF_Valid_id args H post := .enterF Tryd.func13 PP_mix gF_Valid_comp ha h

/-! emendate.emendateref16.Valid -/
def r6_Valid_kl : Nat → List Nat
  | 0 => [0, 2]
  | 1 => [14, 15, 16, 17, 18, 19, 20, 21, 22]
  | 2 => [1, 23]
  | 3 => [23]
  | 5 => [24, 25, 26, 27]
  | 6 => [5, 7, 29, 30, 72]
  | 7 => [28, 31, 32, 33, 34, 35]
  | 8 => [36, 37, 38, 39, 40, 41, 42, 43]
  | 9 => [44, 45, 46, 47, 48, 49, 50, 51, 52]
  | 10 => [1, 3, 4, 5, 53]
  | 11 => [53]
  | 12 => [54, 55]
  | 13 => [57, 58, 67]
  | 14 => [56, 59, 60, 61, 62, 63, 64, 65, 66]
  | 15 => [1, 3, 4, 5, 6, 67]
  | 16 => [6, 56]
  | 17 => [68, 69, 70, 71]
  | 18 => [73, 74, 93]
  | 19 => [72, 75, 76, 77, 78, 79]
  | 20 => [8, 80, 81, 82, 83, 84, 85, 86, 87, 88, 89, 90, 91, 92]
  | 21 => [1, 3, 4, 5, 7, 93]
  | 22 => [4, 28]
  | 24 => [94, 95, 96, 97]
  | 25 => [11, 12, 99, 100, 124]
  | 26 => [98, 101, 102, 103, 104, 105]
  | 27 => [106, 107, 108, 109, 110, 111, 112, 113, 114, 115, 116, 117, 118]
  | 28 => [1, 3, 9, 10, 11, 119]
  | 29 => [119]
  | 30 => [120, 121, 122, 123]
  | 31 => [125, 126]
  | 32 => [124]
  | 33 => [127, 128, 129]
  | 34 => [131, 132, 142]
  | 35 => [130, 133, 134, 135, 136, 137, 138, 139, 140, 141]
  | 36 => [1, 3, 9, 10, 11, 12, 13, 142]
  | 37 => [13, 130, 143, 144, 145, 146, 147, 148]
  | 38 => [1, 3, 9, 10, 11, 12, 149]
  | 39 => [149, 150, 151, 152, 153, 154, 155, 156, 157]
  | 40 => [1, 3, 9, 10, 98, 158]
  | _ => []
def r6_Valid_ow : Nat → Nat → Bool := fun _ _ => false
def r6_Valid_c0 : AC := .reg [⟨some 1, none, .box (.t 0) 3 25⟩, ⟨some 2, none, .mov (.c (.bool false))⟩] [0, 2]
@[simp] theorem r6_Valid_c0_eq : aw PP r6_Valid_c0 K env H = awOps PP [⟨some 1, none, .box (.t 0) 3 25⟩, ⟨some 2, none, .mov (.c (.bool false))⟩] (regK K [0, 2]) (panK K) env H := aw_reg _ _
def r6_Valid_c1 : AC := .reg [⟨some 14, none, .fa 2 2 (.t 1)⟩, ⟨some 15, none, .ld false 1 (.t 14)⟩, ⟨some 16, none, .lenl (.t 15)⟩, ⟨some 17, none, .bin (.lss) (.t 16) (.c (.int (.i64) 1))⟩, ⟨some 18, none, .mov (.t 17)⟩, ⟨some 19, some (18, false), .fa 2 2 (.t 1)⟩, ⟨some 20, some (18, false), .ld false 1 (.t 19)⟩, ⟨some 21, some (18, false), .lenl (.t 20)⟩, ⟨some 22, some (18, false), .bin (.gtr) (.t 21) (.c (.int (.i64) 120))⟩, ⟨some 23, none, .pick (.t 18) (.c (.bool true)) (.t 22)⟩] [14, 15, 16, 17, 18, 19, 20, 21, 22]
@[simp] theorem r6_Valid_c1_eq : aw PP r6_Valid_c1 K env H = awOps PP [⟨some 14, none, .fa 2 2 (.t 1)⟩, ⟨some 15, none, .ld false 1 (.t 14)⟩, ⟨some 16, none, .lenl (.t 15)⟩, ⟨some 17, none, .bin (.lss) (.t 16) (.c (.int (.i64) 1))⟩, ⟨some 18, none, .mov (.t 17)⟩, ⟨some 19, some (18, false), .fa 2 2 (.t 1)⟩, ⟨some 20, some (18, false), .ld false 1 (.t 19)⟩, ⟨some 21, some (18, false), .lenl (.t 20)⟩, ⟨some 22, some (18, false), .bin (.gtr) (.t 21) (.c (.int (.i64) 120))⟩, ⟨some 23, none, .pick (.t 18) (.c (.bool true)) (.t 22)⟩] (regK K [14, 15, 16, 17, 18, 19, 20, 21, 22]) (panK K) env H := aw_reg _ _
def r6_Valid_c2 : AC := .reg [⟨some 2, none, .mov (.c (.bool false))⟩] [1, 23]
@[simp] theorem r6_Valid_c2_eq : aw PP r6_Valid_c2 K env H = awOps PP [⟨some 2, none, .mov (.c (.bool false))⟩] (regK K [1, 23]) (panK K) env H := aw_reg _ _
def r6_Valid_c3 : AC := .seq r6_Valid_c2 .ret
@[simp] theorem r6_Valid_c3_eq : aw PP r6_Valid_c3 K env H = aw PP r6_Valid_c2 (seqK PP .ret K) env H := aw_seq r6_Valid_c2 .ret
def r6_Valid_c4 : AC := .cond (.t 23) r6_Valid_c3 .skip
@[simp] theorem r6_Valid_c4_eq : aw PP r6_Valid_c4 K env H = condQ PP (Opd.ev env (.t 23)) r6_Valid_c3 .skip K env H := aw_cond _ r6_Valid_c3 .skip
def r6_Valid_c5 : AC := .seq r6_Valid_c1 r6_Valid_c4
@[simp] theorem r6_Valid_c5_eq : aw PP r6_Valid_c5 K env H = aw PP r6_Valid_c1 (seqK PP r6_Valid_c4 K) env H := aw_seq r6_Valid_c1 r6_Valid_c4
def r6_Valid_c6 : AC := .reg [⟨some 3, none, .mov (.c (.bool false))⟩] [23]
@[simp] theorem r6_Valid_c6_eq : aw PP r6_Valid_c6 K env H = awOps PP [⟨some 3, none, .mov (.c (.bool false))⟩] (regK K [23]) (panK K) env H := aw_reg _ _
def r6_Valid_c7 : AC := .reg [⟨some 4, none, .mov (.c (.int (.i64) 0))⟩] []
@[simp] theorem r6_Valid_c7_eq : aw PP r6_Valid_c7 K env H = awOps PP [⟨some 4, none, .mov (.c (.int (.i64) 0))⟩] (regK K []) (panK K) env H := aw_reg _ _
def r6_Valid_c8 : AC := .reg [⟨some 24, none, .mov (.t 4)⟩, ⟨some 25, none, .fa 2 2 (.t 1)⟩, ⟨some 26, none, .ld false 1 (.t 25)⟩, ⟨some 27, none, .lenl (.t 26)⟩, ⟨some 28, none, .bin (.lss) (.t 24) (.t 27)⟩] [24, 25, 26, 27]
@[simp] theorem r6_Valid_c8_eq : aw PP r6_Valid_c8 K env H = awOps PP [⟨some 24, none, .mov (.t 4)⟩, ⟨some 25, none, .fa 2 2 (.t 1)⟩, ⟨some 26, none, .ld false 1 (.t 25)⟩, ⟨some 27, none, .lenl (.t 26)⟩, ⟨some 28, none, .bin (.lss) (.t 24) (.t 27)⟩] (regK K [24, 25, 26, 27]) (panK K) env H := aw_reg _ _
def r6_Valid_c9 : AC := .cond (.t 28) .skip (.exit 0)
@[simp] theorem r6_Valid_c9_eq : aw PP r6_Valid_c9 K env H = condQ PP (Opd.ev env (.t 28)) .skip (.exit 0) K env H := aw_cond _ .skip (.exit 0)
def r6_Valid_c10 : AC := .seq r6_Valid_c8 r6_Valid_c9
@[simp] theorem r6_Valid_c10_eq : aw PP r6_Valid_c10 K env H = aw PP r6_Valid_c8 (seqK PP r6_Valid_c9 K) env H := aw_seq r6_Valid_c8 r6_Valid_c9
def r6_Valid_c11 : AC := .reg [⟨some 31, none, .fa 2 2 (.t 1)⟩, ⟨some 32, none, .ld false 1 (.t 31)⟩, ⟨some 33, none, .mov (.t 4)⟩, ⟨some 34, none, .ixa 2 (.t 32) (.t 33)⟩, ⟨some 35, none, .ld true 2 (.t 34)⟩, ⟨some 5, none, .alloc (.struct [.str [], .nils]) 41⟩, ⟨none, none, .st 2 (.t 5) (.t 35)⟩] [28, 31, 32, 33, 34, 35]
@[simp] theorem r6_Valid_c11_eq : aw PP r6_Valid_c11 K env H = awOps PP [⟨some 31, none, .fa 2 2 (.t 1)⟩, ⟨some 32, none, .ld false 1 (.t 31)⟩, ⟨some 33, none, .mov (.t 4)⟩, ⟨some 34, none, .ixa 2 (.t 32) (.t 33)⟩, ⟨some 35, none, .ld true 2 (.t 34)⟩, ⟨some 5, none, .alloc (.struct [.str [], .nils]) 41⟩, ⟨none, none, .st 2 (.t 5) (.t 35)⟩] (regK K [28, 31, 32, 33, 34, 35]) (panK K) env H := aw_reg _ _
def r6_Valid_c12 : AC := .reg [⟨some 36, none, .mov (.t 3)⟩, ⟨some 37, none, .mov (.t 36)⟩, ⟨some 38, some (37, false), .fa 0 0 (.t 5)⟩, ⟨some 39, some (37, false), .ld false 1 (.t 38)⟩, ⟨some 40, some (37, false), .fa 0 0 (.t 1)⟩, ⟨some 41, some (37, false), .ld false 1 (.t 40)⟩, ⟨some 42, some (37, false), .bin (.eql) (.t 39) (.t 41)⟩, ⟨some 43, none, .pick (.t 37) (.c (.bool true)) (.t 42)⟩, ⟨some 3, none, .mov (.t 43)⟩] [36, 37, 38, 39, 40, 41, 42, 43]
@[simp] theorem r6_Valid_c12_eq : aw PP r6_Valid_c12 K env H = awOps PP [⟨some 36, none, .mov (.t 3)⟩, ⟨some 37, none, .mov (.t 36)⟩, ⟨some 38, some (37, false), .fa 0 0 (.t 5)⟩, ⟨some 39, some (37, false), .ld false 1 (.t 38)⟩, ⟨some 40, some (37, false), .fa 0 0 (.t 1)⟩, ⟨some 41, some (37, false), .ld false 1 (.t 40)⟩, ⟨some 42, some (37, false), .bin (.eql) (.t 39) (.t 41)⟩, ⟨some 43, none, .pick (.t 37) (.c (.bool true)) (.t 42)⟩, ⟨some 3, none, .mov (.t 43)⟩] (regK K [36, 37, 38, 39, 40, 41, 42, 43]) (panK K) env H := aw_reg _ _
def r6_Valid_c13 : AC := .reg [⟨some 44, none, .fa 0 0 (.t 5)⟩, ⟨some 45, none, .ld false 1 (.t 44)⟩, ⟨some 46, none, .call (.c (.fn (.func 28) [] [])) [.t 45]⟩, ⟨some 47, none, .not (.t 46)⟩, ⟨some 48, none, .mov (.t 47)⟩, ⟨some 49, some (48, false), .fa 1 1 (.t 5)⟩, ⟨some 50, some (48, false), .ld false 1 (.t 49)⟩, ⟨some 51, some (48, false), .lenl (.t 50)⟩, ⟨some 52, some (48, false), .bin (.eql) (.t 51) (.c (.int (.i64) 0))⟩, ⟨some 53, none, .pick (.t 48) (.c (.bool true)) (.t 52)⟩] [44, 45, 46, 47, 48, 49, 50, 51, 52]
@[simp] theorem r6_Valid_c13_eq : aw PP r6_Valid_c13 K env H = awOps PP [⟨some 44, none, .fa 0 0 (.t 5)⟩, ⟨some 45, none, .ld false 1 (.t 44)⟩, ⟨some 46, none, .call (.c (.fn (.func 28) [] [])) [.t 45]⟩, ⟨some 47, none, .not (.t 46)⟩, ⟨some 48, none, .mov (.t 47)⟩, ⟨some 49, some (48, false), .fa 1 1 (.t 5)⟩, ⟨some 50, some (48, false), .ld false 1 (.t 49)⟩, ⟨some 51, some (48, false), .lenl (.t 50)⟩, ⟨some 52, some (48, false), .bin (.eql) (.t 51) (.c (.int (.i64) 0))⟩, ⟨some 53, none, .pick (.t 48) (.c (.bool true)) (.t 52)⟩] (regK K [44, 45, 46, 47, 48, 49, 50, 51, 52]) (panK K) env H := aw_reg _ _
def r6_Valid_c14 : AC := .reg [⟨some 2, none, .mov (.c (.bool false))⟩] [1, 3, 4, 5, 53]
@[simp] theorem r6_Valid_c14_eq : aw PP r6_Valid_c14 K env H = awOps PP [⟨some 2, none, .mov (.c (.bool false))⟩] (regK K [1, 3, 4, 5, 53]) (panK K) env H := aw_reg _ _
def r6_Valid_c15 : AC := .seq r6_Valid_c14 .ret
@[simp] theorem r6_Valid_c15_eq : aw PP r6_Valid_c15 K env H = aw PP r6_Valid_c14 (seqK PP .ret K) env H := aw_seq r6_Valid_c14 .ret
def r6_Valid_c16 : AC := .cond (.t 53) r6_Valid_c15 .skip
@[simp] theorem r6_Valid_c16_eq : aw PP r6_Valid_c16 K env H = condQ PP (Opd.ev env (.t 53)) r6_Valid_c15 .skip K env H := aw_cond _ r6_Valid_c15 .skip
def r6_Valid_c17 : AC := .seq r6_Valid_c13 r6_Valid_c16
@[simp] theorem r6_Valid_c17_eq : aw PP r6_Valid_c17 K env H = aw PP r6_Valid_c13 (seqK PP r6_Valid_c16 K) env H := aw_seq r6_Valid_c13 r6_Valid_c16
def r6_Valid_c18 : AC := .reg [⟨some 6, none, .mov (.c (.int (.i64) 0))⟩] [53]
@[simp] theorem r6_Valid_c18_eq : aw PP r6_Valid_c18 K env H = awOps PP [⟨some 6, none, .mov (.c (.int (.i64) 0))⟩] (regK K [53]) (panK K) env H := aw_reg _ _
def r6_Valid_c19 : AC := .reg [⟨some 54, none, .mov (.t 6)⟩, ⟨some 55, none, .mov (.t 4)⟩, ⟨some 56, none, .bin (.lss) (.t 54) (.t 55)⟩] [54, 55]
@[simp] theorem r6_Valid_c19_eq : aw PP r6_Valid_c19 K env H = awOps PP [⟨some 54, none, .mov (.t 6)⟩, ⟨some 55, none, .mov (.t 4)⟩, ⟨some 56, none, .bin (.lss) (.t 54) (.t 55)⟩] (regK K [54, 55]) (panK K) env H := aw_reg _ _
def r6_Valid_c20 : AC := .cond (.t 56) .skip (.exit 2)
@[simp] theorem r6_Valid_c20_eq : aw PP r6_Valid_c20 K env H = condQ PP (Opd.ev env (.t 56)) .skip (.exit 2) K env H := aw_cond _ .skip (.exit 2)
def r6_Valid_c21 : AC := .seq r6_Valid_c19 r6_Valid_c20
@[simp] theorem r6_Valid_c21_eq : aw PP r6_Valid_c21 K env H = aw PP r6_Valid_c19 (seqK PP r6_Valid_c20 K) env H := aw_seq r6_Valid_c19 r6_Valid_c20
def r6_Valid_c22_ops : List (AI × List Nat) := [(⟨some 59, none, .fa 2 2 (.t 1)⟩, []), (⟨some 60, none, .ld false 1 (.t 59)⟩, [0]), (⟨some 61, none, .mov (.t 6)⟩, []), (⟨some 62, none, .ixa 2 (.t 60) (.t 61)⟩, [1, 2]), (⟨some 63, none, .fa 0 0 (.t 62)⟩, [3]), (⟨some 64, none, .ld false 1 (.t 63)⟩, [4]), (⟨some 65, none, .fa 0 0 (.t 5)⟩, []), (⟨some 66, none, .ld false 1 (.t 65)⟩, [6]), (⟨some 67, none, .bin (.eql) (.t 64) (.t 66)⟩, [5, 7])]
def r6_Valid_c22 : AC := .dreg r6_Valid_c22_ops [56, 59, 60, 61, 62, 63, 64, 65, 66]
theorem r6_Valid_c22_ok : lexOK r6_Valid_c22_ops (fun i => [].contains i) = true := by kernel_rfl
theorem r6_Valid_c22_lex (h : awLex PP (fun i => [].contains i) (regK K [56, 59, 60, 61, 62, 63, 64, 65, 66]) (panK K) [(0, ⟨some 59, none, .fa 2 2 (.t 1)⟩), (1, ⟨some 60, none, .ld false 1 (.t 59)⟩), (2, ⟨some 61, none, .mov (.t 6)⟩), (3, ⟨some 62, none, .ixa 2 (.t 60) (.t 61)⟩), (4, ⟨some 63, none, .fa 0 0 (.t 62)⟩), (5, ⟨some 64, none, .ld false 1 (.t 63)⟩), (6, ⟨some 65, none, .fa 0 0 (.t 5)⟩), (7, ⟨some 66, none, .ld false 1 (.t 65)⟩), (8, ⟨some 67, none, .bin (.eql) (.t 64) (.t 66)⟩)] env H) : aw PP r6_Valid_c22 K env H := aw_dreg_lex _ r6_Valid_c22_ok h
def r6_Valid_c23 : AC := .reg [⟨some 2, none, .mov (.c (.bool false))⟩] [1, 3, 4, 5, 6, 67]
@[simp] theorem r6_Valid_c23_eq : aw PP r6_Valid_c23 K env H = awOps PP [⟨some 2, none, .mov (.c (.bool false))⟩] (regK K [1, 3, 4, 5, 6, 67]) (panK K) env H := aw_reg _ _
def r6_Valid_c24 : AC := .seq r6_Valid_c23 .ret
@[simp] theorem r6_Valid_c24_eq : aw PP r6_Valid_c24 K env H = aw PP r6_Valid_c23 (seqK PP .ret K) env H := aw_seq r6_Valid_c23 .ret
def r6_Valid_c25 : AC := .cond (.t 67) r6_Valid_c24 .skip
@[simp] theorem r6_Valid_c25_eq : aw PP r6_Valid_c25 K env H = condQ PP (Opd.ev env (.t 67)) r6_Valid_c24 .skip K env H := aw_cond _ r6_Valid_c24 .skip
def r6_Valid_c26 : AC := .seq r6_Valid_c22 r6_Valid_c25
@[simp] theorem r6_Valid_c26_eq : aw PP r6_Valid_c26 K env H = aw PP r6_Valid_c22 (seqK PP r6_Valid_c25 K) env H := aw_seq r6_Valid_c22 r6_Valid_c25
def r6_Valid_c27 : AC := .block 3 r6_Valid_c26
@[simp] theorem r6_Valid_c27_eq : aw PP r6_Valid_c27 K env H = aw PP r6_Valid_c26 (blockK 3 K) env H := aw_block _ r6_Valid_c26
def r6_Valid_c28 : AC := .reg [⟨some 57, none, .mov (.t 6)⟩, ⟨some 58, none, .bin (.add) (.t 57) (.c (.int (.i64) 1))⟩, ⟨some 6, none, .mov (.t 58)⟩] [57, 58, 67]
@[simp] theorem r6_Valid_c28_eq : aw PP r6_Valid_c28 K env H = awOps PP [⟨some 57, none, .mov (.t 6)⟩, ⟨some 58, none, .bin (.add) (.t 57) (.c (.int (.i64) 1))⟩, ⟨some 6, none, .mov (.t 58)⟩] (regK K [57, 58, 67]) (panK K) env H := aw_reg _ _
def r6_Valid_c29 : AC := .seq r6_Valid_c27 r6_Valid_c28
@[simp] theorem r6_Valid_c29_eq : aw PP r6_Valid_c29 K env H = aw PP r6_Valid_c27 (seqK PP r6_Valid_c28 K) env H := aw_seq r6_Valid_c27 r6_Valid_c28
def r6_Valid_c30 : AC := .seq r6_Valid_c21 r6_Valid_c29
@[simp] theorem r6_Valid_c30_eq : aw PP r6_Valid_c30 K env H = aw PP r6_Valid_c21 (seqK PP r6_Valid_c29 K) env H := aw_seq r6_Valid_c21 r6_Valid_c29
def r6_Valid_c31 : AC := .loop r6_Valid_c30
def r6_Valid_c32 : AC := .block 2 r6_Valid_c31
@[simp] theorem r6_Valid_c32_eq : aw PP r6_Valid_c32 K env H = aw PP r6_Valid_c31 (blockK 2 K) env H := aw_block _ r6_Valid_c31
def r6_Valid_c33 : AC := .seq r6_Valid_c18 r6_Valid_c32
@[simp] theorem r6_Valid_c33_eq : aw PP r6_Valid_c33 K env H = aw PP r6_Valid_c18 (seqK PP r6_Valid_c32 K) env H := aw_seq r6_Valid_c18 r6_Valid_c32
def r6_Valid_c34 : AC := .reg [⟨some 7, none, .mov (.c (.int (.i64) 0))⟩] [6, 56]
@[simp] theorem r6_Valid_c34_eq : aw PP r6_Valid_c34 K env H = awOps PP [⟨some 7, none, .mov (.c (.int (.i64) 0))⟩] (regK K [6, 56]) (panK K) env H := aw_reg _ _
def r6_Valid_c35 : AC := .reg [⟨some 68, none, .mov (.t 7)⟩, ⟨some 69, none, .fa 1 1 (.t 5)⟩, ⟨some 70, none, .ld false 1 (.t 69)⟩, ⟨some 71, none, .lenl (.t 70)⟩, ⟨some 72, none, .bin (.lss) (.t 68) (.t 71)⟩] [68, 69, 70, 71]
@[simp] theorem r6_Valid_c35_eq : aw PP r6_Valid_c35 K env H = awOps PP [⟨some 68, none, .mov (.t 7)⟩, ⟨some 69, none, .fa 1 1 (.t 5)⟩, ⟨some 70, none, .ld false 1 (.t 69)⟩, ⟨some 71, none, .lenl (.t 70)⟩, ⟨some 72, none, .bin (.lss) (.t 68) (.t 71)⟩] (regK K [68, 69, 70, 71]) (panK K) env H := aw_reg _ _
def r6_Valid_c36 : AC := .cond (.t 72) .skip (.exit 4)
@[simp] theorem r6_Valid_c36_eq : aw PP r6_Valid_c36 K env H = condQ PP (Opd.ev env (.t 72)) .skip (.exit 4) K env H := aw_cond _ .skip (.exit 4)
def r6_Valid_c37 : AC := .seq r6_Valid_c35 r6_Valid_c36
@[simp] theorem r6_Valid_c37_eq : aw PP r6_Valid_c37 K env H = aw PP r6_Valid_c35 (seqK PP r6_Valid_c36 K) env H := aw_seq r6_Valid_c35 r6_Valid_c36
def r6_Valid_c38 : AC := .reg [⟨some 75, none, .fa 1 1 (.t 5)⟩, ⟨some 76, none, .ld false 1 (.t 75)⟩, ⟨some 77, none, .mov (.t 7)⟩, ⟨some 78, none, .ixa 4 (.t 76) (.t 77)⟩, ⟨some 79, none, .ld true 4 (.t 78)⟩, ⟨some 8, none, .alloc (.struct [.struct [.int (.i64) 0, .str [], .nils], .int (.i64) 0]) 38⟩, ⟨none, none, .st 4 (.t 8) (.t 79)⟩] [72, 75, 76, 77, 78, 79]
@[simp] theorem r6_Valid_c38_eq : aw PP r6_Valid_c38 K env H = awOps PP [⟨some 75, none, .fa 1 1 (.t 5)⟩, ⟨some 76, none, .ld false 1 (.t 75)⟩, ⟨some 77, none, .mov (.t 7)⟩, ⟨some 78, none, .ixa 4 (.t 76) (.t 77)⟩, ⟨some 79, none, .ld true 4 (.t 78)⟩, ⟨some 8, none, .alloc (.struct [.struct [.int (.i64) 0, .str [], .nils], .int (.i64) 0]) 38⟩, ⟨none, none, .st 4 (.t 8) (.t 79)⟩] (regK K [72, 75, 76, 77, 78, 79]) (panK K) env H := aw_reg _ _
def r6_Valid_c39 : AC := .reg [⟨some 80, none, .fa 1 3 (.t 8)⟩, ⟨some 81, none, .ld false 1 (.t 80)⟩, ⟨some 82, none, .bin (.lss) (.t 81) (.c (.int (.i64) 0))⟩, ⟨some 83, none, .mov (.t 82)⟩, ⟨some 84, some (83, false), .fa 1 3 (.t 8)⟩, ⟨some 85, some (83, false), .ld false 1 (.t 84)⟩, ⟨some 86, some (83, false), .bin (.gtr) (.t 85) (.c (.int (.i64) 1000))⟩, ⟨some 87, none, .pick (.t 83) (.c (.bool true)) (.t 86)⟩, ⟨some 88, none, .mov (.t 87)⟩, ⟨some 89, some (88, false), .fa 0 0 (.t 8)⟩, ⟨some 90, some (88, false), .ld true 3 (.t 89)⟩, ⟨some 91, some (88, false), .call (.c (.fn (.func 29) [] [])) [.t 90, .c (.int (.i64) 30)]⟩, ⟨some 92, some (88, false), .not (.t 91)⟩, ⟨some 93, none, .pick (.t 88) (.c (.bool true)) (.t 92)⟩] [8, 80, 81, 82, 83, 84, 85, 86, 87, 88, 89, 90, 91, 92]
@[simp] theorem r6_Valid_c39_eq : aw PP r6_Valid_c39 K env H = awOps PP [⟨some 80, none, .fa 1 3 (.t 8)⟩, ⟨some 81, none, .ld false 1 (.t 80)⟩, ⟨some 82, none, .bin (.lss) (.t 81) (.c (.int (.i64) 0))⟩, ⟨some 83, none, .mov (.t 82)⟩, ⟨some 84, some (83, false), .fa 1 3 (.t 8)⟩, ⟨some 85, some (83, false), .ld false 1 (.t 84)⟩, ⟨some 86, some (83, false), .bin (.gtr) (.t 85) (.c (.int (.i64) 1000))⟩, ⟨some 87, none, .pick (.t 83) (.c (.bool true)) (.t 86)⟩, ⟨some 88, none, .mov (.t 87)⟩, ⟨some 89, some (88, false), .fa 0 0 (.t 8)⟩, ⟨some 90, some (88, false), .ld true 3 (.t 89)⟩, ⟨some 91, some (88, false), .call (.c (.fn (.func 29) [] [])) [.t 90, .c (.int (.i64) 30)]⟩, ⟨some 92, some (88, false), .not (.t 91)⟩, ⟨some 93, none, .pick (.t 88) (.c (.bool true)) (.t 92)⟩] (regK K [8, 80, 81, 82, 83, 84, 85, 86, 87, 88, 89, 90, 91, 92]) (panK K) env H := aw_reg _ _
def r6_Valid_c40 : AC := .reg [⟨some 2, none, .mov (.c (.bool false))⟩] [1, 3, 4, 5, 7, 93]
@[simp] theorem r6_Valid_c40_eq : aw PP r6_Valid_c40 K env H = awOps PP [⟨some 2, none, .mov (.c (.bool false))⟩] (regK K [1, 3, 4, 5, 7, 93]) (panK K) env H := aw_reg _ _
def r6_Valid_c41 : AC := .seq r6_Valid_c40 .ret
@[simp] theorem r6_Valid_c41_eq : aw PP r6_Valid_c41 K env H = aw PP r6_Valid_c40 (seqK PP .ret K) env H := aw_seq r6_Valid_c40 .ret
def r6_Valid_c42 : AC := .cond (.t 93) r6_Valid_c41 .skip
@[simp] theorem r6_Valid_c42_eq : aw PP r6_Valid_c42 K env H = condQ PP (Opd.ev env (.t 93)) r6_Valid_c41 .skip K env H := aw_cond _ r6_Valid_c41 .skip
def r6_Valid_c43 : AC := .seq r6_Valid_c39 r6_Valid_c42
@[simp] theorem r6_Valid_c43_eq : aw PP r6_Valid_c43 K env H = aw PP r6_Valid_c39 (seqK PP r6_Valid_c42 K) env H := aw_seq r6_Valid_c39 r6_Valid_c42
def r6_Valid_c44 : AC := .seq r6_Valid_c38 r6_Valid_c43
@[simp] theorem r6_Valid_c44_eq : aw PP r6_Valid_c44 K env H = aw PP r6_Valid_c38 (seqK PP r6_Valid_c43 K) env H := aw_seq r6_Valid_c38 r6_Valid_c43
def r6_Valid_c45 : AC := .block 5 r6_Valid_c44
@[simp] theorem r6_Valid_c45_eq : aw PP r6_Valid_c45 K env H = aw PP r6_Valid_c44 (blockK 5 K) env H := aw_block _ r6_Valid_c44
def r6_Valid_c46 : AC := .reg [⟨some 73, none, .mov (.t 7)⟩, ⟨some 74, none, .bin (.add) (.t 73) (.c (.int (.i64) 1))⟩, ⟨some 7, none, .mov (.t 74)⟩] [73, 74, 93]
@[simp] theorem r6_Valid_c46_eq : aw PP r6_Valid_c46 K env H = awOps PP [⟨some 73, none, .mov (.t 7)⟩, ⟨some 74, none, .bin (.add) (.t 73) (.c (.int (.i64) 1))⟩, ⟨some 7, none, .mov (.t 74)⟩] (regK K [73, 74, 93]) (panK K) env H := aw_reg _ _
def r6_Valid_c47 : AC := .seq r6_Valid_c45 r6_Valid_c46
@[simp] theorem r6_Valid_c47_eq : aw PP r6_Valid_c47 K env H = aw PP r6_Valid_c45 (seqK PP r6_Valid_c46 K) env H := aw_seq r6_Valid_c45 r6_Valid_c46
def r6_Valid_c48 : AC := .seq r6_Valid_c37 r6_Valid_c47
@[simp] theorem r6_Valid_c48_eq : aw PP r6_Valid_c48 K env H = aw PP r6_Valid_c37 (seqK PP r6_Valid_c47 K) env H := aw_seq r6_Valid_c37 r6_Valid_c47
def r6_Valid_c49 : AC := .loop r6_Valid_c48
def r6_Valid_c50 : AC := .block 4 r6_Valid_c49
@[simp] theorem r6_Valid_c50_eq : aw PP r6_Valid_c50 K env H = aw PP r6_Valid_c49 (blockK 4 K) env H := aw_block _ r6_Valid_c49
def r6_Valid_c51 : AC := .seq r6_Valid_c34 r6_Valid_c50
@[simp] theorem r6_Valid_c51_eq : aw PP r6_Valid_c51 K env H = aw PP r6_Valid_c34 (seqK PP r6_Valid_c50 K) env H := aw_seq r6_Valid_c34 r6_Valid_c50
def r6_Valid_c52 : AC := .seq r6_Valid_c33 r6_Valid_c51
@[simp] theorem r6_Valid_c52_eq : aw PP r6_Valid_c52 K env H = aw PP r6_Valid_c33 (seqK PP r6_Valid_c51 K) env H := aw_seq r6_Valid_c33 r6_Valid_c51
def r6_Valid_c53 : AC := .seq r6_Valid_c17 r6_Valid_c52
@[simp] theorem r6_Valid_c53_eq : aw PP r6_Valid_c53 K env H = aw PP r6_Valid_c17 (seqK PP r6_Valid_c52 K) env H := aw_seq r6_Valid_c17 r6_Valid_c52
def r6_Valid_c54 : AC := .seq r6_Valid_c12 r6_Valid_c53
@[simp] theorem r6_Valid_c54_eq : aw PP r6_Valid_c54 K env H = aw PP r6_Valid_c12 (seqK PP r6_Valid_c53 K) env H := aw_seq r6_Valid_c12 r6_Valid_c53
def r6_Valid_c55 : AC := .seq r6_Valid_c11 r6_Valid_c54
@[simp] theorem r6_Valid_c55_eq : aw PP r6_Valid_c55 K env H = aw PP r6_Valid_c11 (seqK PP r6_Valid_c54 K) env H := aw_seq r6_Valid_c11 r6_Valid_c54
def r6_Valid_c56 : AC := .block 1 r6_Valid_c55
@[simp] theorem r6_Valid_c56_eq : aw PP r6_Valid_c56 K env H = aw PP r6_Valid_c55 (blockK 1 K) env H := aw_block _ r6_Valid_c55
def r6_Valid_c57 : AC := .reg [⟨some 29, none, .mov (.t 4)⟩, ⟨some 30, none, .bin (.add) (.t 29) (.c (.int (.i64) 1))⟩, ⟨some 4, none, .mov (.t 30)⟩] [5, 7, 29, 30, 72]
@[simp] theorem r6_Valid_c57_eq : aw PP r6_Valid_c57 K env H = awOps PP [⟨some 29, none, .mov (.t 4)⟩, ⟨some 30, none, .bin (.add) (.t 29) (.c (.int (.i64) 1))⟩, ⟨some 4, none, .mov (.t 30)⟩] (regK K [5, 7, 29, 30, 72]) (panK K) env H := aw_reg _ _
def r6_Valid_c58 : AC := .seq r6_Valid_c56 r6_Valid_c57
@[simp] theorem r6_Valid_c58_eq : aw PP r6_Valid_c58 K env H = aw PP r6_Valid_c56 (seqK PP r6_Valid_c57 K) env H := aw_seq r6_Valid_c56 r6_Valid_c57
def r6_Valid_c59 : AC := .seq r6_Valid_c10 r6_Valid_c58
@[simp] theorem r6_Valid_c59_eq : aw PP r6_Valid_c59 K env H = aw PP r6_Valid_c10 (seqK PP r6_Valid_c58 K) env H := aw_seq r6_Valid_c10 r6_Valid_c58
def r6_Valid_c60 : AC := .loop r6_Valid_c59
def r6_Valid_c61 : AC := .block 0 r6_Valid_c60
@[simp] theorem r6_Valid_c61_eq : aw PP r6_Valid_c61 K env H = aw PP r6_Valid_c60 (blockK 0 K) env H := aw_block _ r6_Valid_c60
def r6_Valid_c62 : AC := .seq r6_Valid_c7 r6_Valid_c61
@[simp] theorem r6_Valid_c62_eq : aw PP r6_Valid_c62 K env H = aw PP r6_Valid_c7 (seqK PP r6_Valid_c61 K) env H := aw_seq r6_Valid_c7 r6_Valid_c61
def r6_Valid_c63 : AC := .reg [⟨some 9, none, .mov (.c (.nils))⟩] [4, 28]
@[simp] theorem r6_Valid_c63_eq : aw PP r6_Valid_c63 K env H = awOps PP [⟨some 9, none, .mov (.c (.nils))⟩] (regK K [4, 28]) (panK K) env H := aw_reg _ _
def r6_Valid_c64 : AC := .reg [⟨some 10, none, .mov (.c (.int (.i64) 0))⟩] []
@[simp] theorem r6_Valid_c64_eq : aw PP r6_Valid_c64 K env H = awOps PP [⟨some 10, none, .mov (.c (.int (.i64) 0))⟩] (regK K []) (panK K) env H := aw_reg _ _
def r6_Valid_c65 : AC := .reg [⟨some 94, none, .mov (.t 10)⟩, ⟨some 95, none, .fa 1 1 (.t 1)⟩, ⟨some 96, none, .ld false 1 (.t 95)⟩, ⟨some 97, none, .lenl (.t 96)⟩, ⟨some 98, none, .bin (.lss) (.t 94) (.t 97)⟩] [94, 95, 96, 97]
@[simp] theorem r6_Valid_c65_eq : aw PP r6_Valid_c65 K env H = awOps PP [⟨some 94, none, .mov (.t 10)⟩, ⟨some 95, none, .fa 1 1 (.t 1)⟩, ⟨some 96, none, .ld false 1 (.t 95)⟩, ⟨some 97, none, .lenl (.t 96)⟩, ⟨some 98, none, .bin (.lss) (.t 94) (.t 97)⟩] (regK K [94, 95, 96, 97]) (panK K) env H := aw_reg _ _
def r6_Valid_c66 : AC := .cond (.t 98) .skip (.exit 6)
@[simp] theorem r6_Valid_c66_eq : aw PP r6_Valid_c66 K env H = condQ PP (Opd.ev env (.t 98)) .skip (.exit 6) K env H := aw_cond _ .skip (.exit 6)
def r6_Valid_c67 : AC := .seq r6_Valid_c65 r6_Valid_c66
@[simp] theorem r6_Valid_c67_eq : aw PP r6_Valid_c67 K env H = aw PP r6_Valid_c65 (seqK PP r6_Valid_c66 K) env H := aw_seq r6_Valid_c65 r6_Valid_c66
def r6_Valid_c68 : AC := .reg [⟨some 101, none, .fa 1 1 (.t 1)⟩, ⟨some 102, none, .ld false 1 (.t 101)⟩, ⟨some 103, none, .mov (.t 10)⟩, ⟨some 104, none, .ixa 2 (.t 102) (.t 103)⟩, ⟨some 105, none, .ld true 2 (.t 104)⟩, ⟨some 11, none, .alloc (.struct [.int (.i64) 0, .nils]) 51⟩, ⟨none, none, .st 2 (.t 11) (.t 105)⟩] [98, 101, 102, 103, 104, 105]
@[simp] theorem r6_Valid_c68_eq : aw PP r6_Valid_c68 K env H = awOps PP [⟨some 101, none, .fa 1 1 (.t 1)⟩, ⟨some 102, none, .ld false 1 (.t 101)⟩, ⟨some 103, none, .mov (.t 10)⟩, ⟨some 104, none, .ixa 2 (.t 102) (.t 103)⟩, ⟨some 105, none, .ld true 2 (.t 104)⟩, ⟨some 11, none, .alloc (.struct [.int (.i64) 0, .nils]) 51⟩, ⟨none, none, .st 2 (.t 11) (.t 105)⟩] (regK K [98, 101, 102, 103, 104, 105]) (panK K) env H := aw_reg _ _
def r6_Valid_c69 : AC := .reg [⟨some 106, none, .fa 0 0 (.t 11)⟩, ⟨some 107, none, .ld false 1 (.t 106)⟩, ⟨some 108, none, .bin (.lss) (.t 107) (.c (.int (.i64) 1))⟩, ⟨some 109, none, .mov (.t 108)⟩, ⟨some 110, some (109, false), .fa 0 0 (.t 11)⟩, ⟨some 111, some (109, false), .ld false 1 (.t 110)⟩, ⟨some 112, some (109, false), .bin (.gtr) (.t 111) (.c (.int (.i64) 3))⟩, ⟨some 113, none, .pick (.t 109) (.c (.bool true)) (.t 112)⟩, ⟨some 114, none, .mov (.t 113)⟩, ⟨some 115, some (114, false), .fa 1 1 (.t 11)⟩, ⟨some 116, some (114, false), .ld false 1 (.t 115)⟩, ⟨some 117, some (114, false), .lenl (.t 116)⟩, ⟨some 118, some (114, false), .bin (.eql) (.t 117) (.c (.int (.i64) 0))⟩, ⟨some 119, none, .pick (.t 114) (.c (.bool true)) (.t 118)⟩] [106, 107, 108, 109, 110, 111, 112, 113, 114, 115, 116, 117, 118]
@[simp] theorem r6_Valid_c69_eq : aw PP r6_Valid_c69 K env H = awOps PP [⟨some 106, none, .fa 0 0 (.t 11)⟩, ⟨some 107, none, .ld false 1 (.t 106)⟩, ⟨some 108, none, .bin (.lss) (.t 107) (.c (.int (.i64) 1))⟩, ⟨some 109, none, .mov (.t 108)⟩, ⟨some 110, some (109, false), .fa 0 0 (.t 11)⟩, ⟨some 111, some (109, false), .ld false 1 (.t 110)⟩, ⟨some 112, some (109, false), .bin (.gtr) (.t 111) (.c (.int (.i64) 3))⟩, ⟨some 113, none, .pick (.t 109) (.c (.bool true)) (.t 112)⟩, ⟨some 114, none, .mov (.t 113)⟩, ⟨some 115, some (114, false), .fa 1 1 (.t 11)⟩, ⟨some 116, some (114, false), .ld false 1 (.t 115)⟩, ⟨some 117, some (114, false), .lenl (.t 116)⟩, ⟨some 118, some (114, false), .bin (.eql) (.t 117) (.c (.int (.i64) 0))⟩, ⟨some 119, none, .pick (.t 114) (.c (.bool true)) (.t 118)⟩] (regK K [106, 107, 108, 109, 110, 111, 112, 113, 114, 115, 116, 117, 118]) (panK K) env H := aw_reg _ _
def r6_Valid_c70 : AC := .reg [⟨some 2, none, .mov (.c (.bool false))⟩] [1, 3, 9, 10, 11, 119]
@[simp] theorem r6_Valid_c70_eq : aw PP r6_Valid_c70 K env H = awOps PP [⟨some 2, none, .mov (.c (.bool false))⟩] (regK K [1, 3, 9, 10, 11, 119]) (panK K) env H := aw_reg _ _
def r6_Valid_c71 : AC := .seq r6_Valid_c70 .ret
@[simp] theorem r6_Valid_c71_eq : aw PP r6_Valid_c71 K env H = aw PP r6_Valid_c70 (seqK PP .ret K) env H := aw_seq r6_Valid_c70 .ret
def r6_Valid_c72 : AC := .cond (.t 119) r6_Valid_c71 .skip
@[simp] theorem r6_Valid_c72_eq : aw PP r6_Valid_c72 K env H = condQ PP (Opd.ev env (.t 119)) r6_Valid_c71 .skip K env H := aw_cond _ r6_Valid_c71 .skip
def r6_Valid_c73 : AC := .seq r6_Valid_c69 r6_Valid_c72
@[simp] theorem r6_Valid_c73_eq : aw PP r6_Valid_c73 K env H = aw PP r6_Valid_c69 (seqK PP r6_Valid_c72 K) env H := aw_seq r6_Valid_c69 r6_Valid_c72
def r6_Valid_c74 : AC := .reg [⟨some 12, none, .mov (.c (.int (.i64) 0))⟩] [119]
@[simp] theorem r6_Valid_c74_eq : aw PP r6_Valid_c74 K env H = awOps PP [⟨some 12, none, .mov (.c (.int (.i64) 0))⟩] (regK K [119]) (panK K) env H := aw_reg _ _
def r6_Valid_c75 : AC := .reg [⟨some 120, none, .mov (.t 12)⟩, ⟨some 121, none, .fa 1 1 (.t 11)⟩, ⟨some 122, none, .ld false 1 (.t 121)⟩, ⟨some 123, none, .lenl (.t 122)⟩, ⟨some 124, none, .bin (.lss) (.t 120) (.t 123)⟩] [120, 121, 122, 123]
@[simp] theorem r6_Valid_c75_eq : aw PP r6_Valid_c75 K env H = awOps PP [⟨some 120, none, .mov (.t 12)⟩, ⟨some 121, none, .fa 1 1 (.t 11)⟩, ⟨some 122, none, .ld false 1 (.t 121)⟩, ⟨some 123, none, .lenl (.t 122)⟩, ⟨some 124, none, .bin (.lss) (.t 120) (.t 123)⟩] (regK K [120, 121, 122, 123]) (panK K) env H := aw_reg _ _
def r6_Valid_c76 : AC := .cond (.t 124) .skip (.exit 8)
@[simp] theorem r6_Valid_c76_eq : aw PP r6_Valid_c76 K env H = condQ PP (Opd.ev env (.t 124)) .skip (.exit 8) K env H := aw_cond _ .skip (.exit 8)
def r6_Valid_c77 : AC := .seq r6_Valid_c75 r6_Valid_c76
@[simp] theorem r6_Valid_c77_eq : aw PP r6_Valid_c77 K env H = aw PP r6_Valid_c75 (seqK PP r6_Valid_c76 K) env H := aw_seq r6_Valid_c75 r6_Valid_c76
def r6_Valid_c78 : AC := .reg [⟨some 13, none, .mov (.c (.int (.i64) 0))⟩] [124]
@[simp] theorem r6_Valid_c78_eq : aw PP r6_Valid_c78 K env H = awOps PP [⟨some 13, none, .mov (.c (.int (.i64) 0))⟩] (regK K [124]) (panK K) env H := aw_reg _ _
def r6_Valid_c79 : AC := .reg [⟨some 127, none, .mov (.t 13)⟩, ⟨some 128, none, .mov (.t 9)⟩, ⟨some 129, none, .lenl (.t 128)⟩, ⟨some 130, none, .bin (.lss) (.t 127) (.t 129)⟩] [127, 128, 129]
@[simp] theorem r6_Valid_c79_eq : aw PP r6_Valid_c79 K env H = awOps PP [⟨some 127, none, .mov (.t 13)⟩, ⟨some 128, none, .mov (.t 9)⟩, ⟨some 129, none, .lenl (.t 128)⟩, ⟨some 130, none, .bin (.lss) (.t 127) (.t 129)⟩] (regK K [127, 128, 129]) (panK K) env H := aw_reg _ _
def r6_Valid_c80 : AC := .cond (.t 130) .skip (.exit 10)
@[simp] theorem r6_Valid_c80_eq : aw PP r6_Valid_c80 K env H = condQ PP (Opd.ev env (.t 130)) .skip (.exit 10) K env H := aw_cond _ .skip (.exit 10)
def r6_Valid_c81 : AC := .seq r6_Valid_c79 r6_Valid_c80
@[simp] theorem r6_Valid_c81_eq : aw PP r6_Valid_c81 K env H = aw PP r6_Valid_c79 (seqK PP r6_Valid_c80 K) env H := aw_seq r6_Valid_c79 r6_Valid_c80
def r6_Valid_c82_ops : List (AI × List Nat) := [(⟨some 133, none, .mov (.t 9)⟩, []), (⟨some 134, none, .mov (.t 13)⟩, []), (⟨some 135, none, .ixa 1 (.t 133) (.t 134)⟩, [0, 1]), (⟨some 136, none, .ld false 1 (.t 135)⟩, [2]), (⟨some 137, none, .fa 1 1 (.t 11)⟩, []), (⟨some 138, none, .ld false 1 (.t 137)⟩, [4]), (⟨some 139, none, .mov (.t 12)⟩, []), (⟨some 140, none, .ixa 1 (.t 138) (.t 139)⟩, [5, 6]), (⟨some 141, none, .ld false 1 (.t 140)⟩, [7]), (⟨some 142, none, .bin (.eql) (.t 136) (.t 141)⟩, [3, 8])]
def r6_Valid_c82 : AC := .dreg r6_Valid_c82_ops [130, 133, 134, 135, 136, 137, 138, 139, 140, 141]
theorem r6_Valid_c82_ok : lexOK r6_Valid_c82_ops (fun i => [].contains i) = true := by kernel_rfl
theorem r6_Valid_c82_lex (h : awLex PP (fun i => [].contains i) (regK K [130, 133, 134, 135, 136, 137, 138, 139, 140, 141]) (panK K) [(0, ⟨some 133, none, .mov (.t 9)⟩), (1, ⟨some 134, none, .mov (.t 13)⟩), (2, ⟨some 135, none, .ixa 1 (.t 133) (.t 134)⟩), (3, ⟨some 136, none, .ld false 1 (.t 135)⟩), (4, ⟨some 137, none, .fa 1 1 (.t 11)⟩), (5, ⟨some 138, none, .ld false 1 (.t 137)⟩), (6, ⟨some 139, none, .mov (.t 12)⟩), (7, ⟨some 140, none, .ixa 1 (.t 138) (.t 139)⟩), (8, ⟨some 141, none, .ld false 1 (.t 140)⟩), (9, ⟨some 142, none, .bin (.eql) (.t 136) (.t 141)⟩)] env H) : aw PP r6_Valid_c82 K env H := aw_dreg_lex _ r6_Valid_c82_ok h
def r6_Valid_c83 : AC := .reg [⟨some 2, none, .mov (.c (.bool false))⟩] [1, 3, 9, 10, 11, 12, 13, 142]
@[simp] theorem r6_Valid_c83_eq : aw PP r6_Valid_c83 K env H = awOps PP [⟨some 2, none, .mov (.c (.bool false))⟩] (regK K [1, 3, 9, 10, 11, 12, 13, 142]) (panK K) env H := aw_reg _ _
def r6_Valid_c84 : AC := .seq r6_Valid_c83 .ret
@[simp] theorem r6_Valid_c84_eq : aw PP r6_Valid_c84 K env H = aw PP r6_Valid_c83 (seqK PP .ret K) env H := aw_seq r6_Valid_c83 .ret
def r6_Valid_c85 : AC := .cond (.t 142) r6_Valid_c84 .skip
@[simp] theorem r6_Valid_c85_eq : aw PP r6_Valid_c85 K env H = condQ PP (Opd.ev env (.t 142)) r6_Valid_c84 .skip K env H := aw_cond _ r6_Valid_c84 .skip
def r6_Valid_c86 : AC := .seq r6_Valid_c82 r6_Valid_c85
@[simp] theorem r6_Valid_c86_eq : aw PP r6_Valid_c86 K env H = aw PP r6_Valid_c82 (seqK PP r6_Valid_c85 K) env H := aw_seq r6_Valid_c82 r6_Valid_c85
def r6_Valid_c87 : AC := .block 11 r6_Valid_c86
@[simp] theorem r6_Valid_c87_eq : aw PP r6_Valid_c87 K env H = aw PP r6_Valid_c86 (blockK 11 K) env H := aw_block _ r6_Valid_c86
def r6_Valid_c88 : AC := .reg [⟨some 131, none, .mov (.t 13)⟩, ⟨some 132, none, .bin (.add) (.t 131) (.c (.int (.i64) 1))⟩, ⟨some 13, none, .mov (.t 132)⟩] [131, 132, 142]
@[simp] theorem r6_Valid_c88_eq : aw PP r6_Valid_c88 K env H = awOps PP [⟨some 131, none, .mov (.t 13)⟩, ⟨some 132, none, .bin (.add) (.t 131) (.c (.int (.i64) 1))⟩, ⟨some 13, none, .mov (.t 132)⟩] (regK K [131, 132, 142]) (panK K) env H := aw_reg _ _
def r6_Valid_c89 : AC := .seq r6_Valid_c87 r6_Valid_c88
@[simp] theorem r6_Valid_c89_eq : aw PP r6_Valid_c89 K env H = aw PP r6_Valid_c87 (seqK PP r6_Valid_c88 K) env H := aw_seq r6_Valid_c87 r6_Valid_c88
def r6_Valid_c90 : AC := .seq r6_Valid_c81 r6_Valid_c89
@[simp] theorem r6_Valid_c90_eq : aw PP r6_Valid_c90 K env H = aw PP r6_Valid_c81 (seqK PP r6_Valid_c89 K) env H := aw_seq r6_Valid_c81 r6_Valid_c89
def r6_Valid_c91 : AC := .loop r6_Valid_c90
def r6_Valid_c92 : AC := .block 10 r6_Valid_c91
@[simp] theorem r6_Valid_c92_eq : aw PP r6_Valid_c92 K env H = aw PP r6_Valid_c91 (blockK 10 K) env H := aw_block _ r6_Valid_c91
def r6_Valid_c93 : AC := .seq r6_Valid_c78 r6_Valid_c92
@[simp] theorem r6_Valid_c93_eq : aw PP r6_Valid_c93 K env H = aw PP r6_Valid_c78 (seqK PP r6_Valid_c92 K) env H := aw_seq r6_Valid_c78 r6_Valid_c92
def r6_Valid_c94 : AC := .reg [⟨some 143, none, .fa 1 1 (.t 11)⟩, ⟨some 144, none, .ld false 1 (.t 143)⟩, ⟨some 145, none, .mov (.t 12)⟩, ⟨some 146, none, .ixa 1 (.t 144) (.t 145)⟩, ⟨some 147, none, .ld false 1 (.t 146)⟩, ⟨some 148, none, .call (.c (.fn (.func 28) [] [])) [.t 147]⟩, ⟨some 149, none, .not (.t 148)⟩] [13, 130, 143, 144, 145, 146, 147, 148]
@[simp] theorem r6_Valid_c94_eq : aw PP r6_Valid_c94 K env H = awOps PP [⟨some 143, none, .fa 1 1 (.t 11)⟩, ⟨some 144, none, .ld false 1 (.t 143)⟩, ⟨some 145, none, .mov (.t 12)⟩, ⟨some 146, none, .ixa 1 (.t 144) (.t 145)⟩, ⟨some 147, none, .ld false 1 (.t 146)⟩, ⟨some 148, none, .call (.c (.fn (.func 28) [] [])) [.t 147]⟩, ⟨some 149, none, .not (.t 148)⟩] (regK K [13, 130, 143, 144, 145, 146, 147, 148]) (panK K) env H := aw_reg _ _
def r6_Valid_c95 : AC := .reg [⟨some 2, none, .mov (.c (.bool false))⟩] [1, 3, 9, 10, 11, 12, 149]
@[simp] theorem r6_Valid_c95_eq : aw PP r6_Valid_c95 K env H = awOps PP [⟨some 2, none, .mov (.c (.bool false))⟩] (regK K [1, 3, 9, 10, 11, 12, 149]) (panK K) env H := aw_reg _ _
def r6_Valid_c96 : AC := .seq r6_Valid_c95 .ret
@[simp] theorem r6_Valid_c96_eq : aw PP r6_Valid_c96 K env H = aw PP r6_Valid_c95 (seqK PP .ret K) env H := aw_seq r6_Valid_c95 .ret
def r6_Valid_c97 : AC := .cond (.t 149) r6_Valid_c96 .skip
@[simp] theorem r6_Valid_c97_eq : aw PP r6_Valid_c97 K env H = condQ PP (Opd.ev env (.t 149)) r6_Valid_c96 .skip K env H := aw_cond _ r6_Valid_c96 .skip
def r6_Valid_c98 : AC := .seq r6_Valid_c94 r6_Valid_c97
@[simp] theorem r6_Valid_c98_eq : aw PP r6_Valid_c98 K env H = aw PP r6_Valid_c94 (seqK PP r6_Valid_c97 K) env H := aw_seq r6_Valid_c94 r6_Valid_c97
def r6_Valid_c99 : AC := .reg [⟨some 150, none, .mov (.t 9)⟩, ⟨some 151, none, .fa 1 1 (.t 11)⟩, ⟨some 152, none, .ld false 1 (.t 151)⟩, ⟨some 153, none, .mov (.t 12)⟩, ⟨some 154, none, .ixa 1 (.t 152) (.t 153)⟩, ⟨some 155, none, .ld false 1 (.t 154)⟩, ⟨some 156, none, .bsl false 9 1 1 (.str []) [(0, .t 155)]⟩, ⟨some 157, none, .app 9 1 16 (.t 150) (.t 156)⟩, ⟨some 9, none, .mov (.t 157)⟩] [149, 150, 151, 152, 153, 154, 155, 156, 157]
@[simp] theorem r6_Valid_c99_eq : aw PP r6_Valid_c99 K env H = awOps PP [⟨some 150, none, .mov (.t 9)⟩, ⟨some 151, none, .fa 1 1 (.t 11)⟩, ⟨some 152, none, .ld false 1 (.t 151)⟩, ⟨some 153, none, .mov (.t 12)⟩, ⟨some 154, none, .ixa 1 (.t 152) (.t 153)⟩, ⟨some 155, none, .ld false 1 (.t 154)⟩, ⟨some 156, none, .bsl false 9 1 1 (.str []) [(0, .t 155)]⟩, ⟨some 157, none, .app 9 1 16 (.t 150) (.t 156)⟩, ⟨some 9, none, .mov (.t 157)⟩] (regK K [149, 150, 151, 152, 153, 154, 155, 156, 157]) (panK K) env H := aw_reg _ _
def r6_Valid_c100 : AC := .seq r6_Valid_c98 r6_Valid_c99
@[simp] theorem r6_Valid_c100_eq : aw PP r6_Valid_c100 K env H = aw PP r6_Valid_c98 (seqK PP r6_Valid_c99 K) env H := aw_seq r6_Valid_c98 r6_Valid_c99
def r6_Valid_c101 : AC := .seq r6_Valid_c93 r6_Valid_c100
@[simp] theorem r6_Valid_c101_eq : aw PP r6_Valid_c101 K env H = aw PP r6_Valid_c93 (seqK PP r6_Valid_c100 K) env H := aw_seq r6_Valid_c93 r6_Valid_c100
def r6_Valid_c102 : AC := .block 9 r6_Valid_c101
@[simp] theorem r6_Valid_c102_eq : aw PP r6_Valid_c102 K env H = aw PP r6_Valid_c101 (blockK 9 K) env H := aw_block _ r6_Valid_c101
def r6_Valid_c103 : AC := .reg [⟨some 125, none, .mov (.t 12)⟩, ⟨some 126, none, .bin (.add) (.t 125) (.c (.int (.i64) 1))⟩, ⟨some 12, none, .mov (.t 126)⟩] [125, 126]
@[simp] theorem r6_Valid_c103_eq : aw PP r6_Valid_c103 K env H = awOps PP [⟨some 125, none, .mov (.t 12)⟩, ⟨some 126, none, .bin (.add) (.t 125) (.c (.int (.i64) 1))⟩, ⟨some 12, none, .mov (.t 126)⟩] (regK K [125, 126]) (panK K) env H := aw_reg _ _
def r6_Valid_c104 : AC := .seq r6_Valid_c102 r6_Valid_c103
@[simp] theorem r6_Valid_c104_eq : aw PP r6_Valid_c104 K env H = aw PP r6_Valid_c102 (seqK PP r6_Valid_c103 K) env H := aw_seq r6_Valid_c102 r6_Valid_c103
def r6_Valid_c105 : AC := .seq r6_Valid_c77 r6_Valid_c104
@[simp] theorem r6_Valid_c105_eq : aw PP r6_Valid_c105 K env H = aw PP r6_Valid_c77 (seqK PP r6_Valid_c104 K) env H := aw_seq r6_Valid_c77 r6_Valid_c104
def r6_Valid_c106 : AC := .loop r6_Valid_c105
def r6_Valid_c107 : AC := .block 8 r6_Valid_c106
@[simp] theorem r6_Valid_c107_eq : aw PP r6_Valid_c107 K env H = aw PP r6_Valid_c106 (blockK 8 K) env H := aw_block _ r6_Valid_c106
def r6_Valid_c108 : AC := .seq r6_Valid_c74 r6_Valid_c107
@[simp] theorem r6_Valid_c108_eq : aw PP r6_Valid_c108 K env H = aw PP r6_Valid_c74 (seqK PP r6_Valid_c107 K) env H := aw_seq r6_Valid_c74 r6_Valid_c107
def r6_Valid_c109 : AC := .seq r6_Valid_c73 r6_Valid_c108
@[simp] theorem r6_Valid_c109_eq : aw PP r6_Valid_c109 K env H = aw PP r6_Valid_c73 (seqK PP r6_Valid_c108 K) env H := aw_seq r6_Valid_c73 r6_Valid_c108
def r6_Valid_c110 : AC := .seq r6_Valid_c68 r6_Valid_c109
@[simp] theorem r6_Valid_c110_eq : aw PP r6_Valid_c110 K env H = aw PP r6_Valid_c68 (seqK PP r6_Valid_c109 K) env H := aw_seq r6_Valid_c68 r6_Valid_c109
def r6_Valid_c111 : AC := .block 7 r6_Valid_c110
@[simp] theorem r6_Valid_c111_eq : aw PP r6_Valid_c111 K env H = aw PP r6_Valid_c110 (blockK 7 K) env H := aw_block _ r6_Valid_c110
def r6_Valid_c112 : AC := .reg [⟨some 99, none, .mov (.t 10)⟩, ⟨some 100, none, .bin (.add) (.t 99) (.c (.int (.i64) 1))⟩, ⟨some 10, none, .mov (.t 100)⟩] [11, 12, 99, 100, 124]
@[simp] theorem r6_Valid_c112_eq : aw PP r6_Valid_c112 K env H = awOps PP [⟨some 99, none, .mov (.t 10)⟩, ⟨some 100, none, .bin (.add) (.t 99) (.c (.int (.i64) 1))⟩, ⟨some 10, none, .mov (.t 100)⟩] (regK K [11, 12, 99, 100, 124]) (panK K) env H := aw_reg _ _
def r6_Valid_c113 : AC := .seq r6_Valid_c111 r6_Valid_c112
@[simp] theorem r6_Valid_c113_eq : aw PP r6_Valid_c113 K env H = aw PP r6_Valid_c111 (seqK PP r6_Valid_c112 K) env H := aw_seq r6_Valid_c111 r6_Valid_c112
def r6_Valid_c114 : AC := .seq r6_Valid_c67 r6_Valid_c113
@[simp] theorem r6_Valid_c114_eq : aw PP r6_Valid_c114 K env H = aw PP r6_Valid_c67 (seqK PP r6_Valid_c113 K) env H := aw_seq r6_Valid_c67 r6_Valid_c113
def r6_Valid_c115 : AC := .loop r6_Valid_c114
def r6_Valid_c116 : AC := .block 6 r6_Valid_c115
@[simp] theorem r6_Valid_c116_eq : aw PP r6_Valid_c116 K env H = aw PP r6_Valid_c115 (blockK 6 K) env H := aw_block _ r6_Valid_c115
def r6_Valid_c117 : AC := .seq r6_Valid_c64 r6_Valid_c116
@[simp] theorem r6_Valid_c117_eq : aw PP r6_Valid_c117 K env H = aw PP r6_Valid_c64 (seqK PP r6_Valid_c116 K) env H := aw_seq r6_Valid_c64 r6_Valid_c116
def r6_Valid_c118 : AC := .reg [⟨some 158, none, .mov (.t 3)⟩, ⟨some 2, none, .mov (.t 158)⟩] [1, 3, 9, 10, 98, 158]
@[simp] theorem r6_Valid_c118_eq : aw PP r6_Valid_c118 K env H = awOps PP [⟨some 158, none, .mov (.t 3)⟩, ⟨some 2, none, .mov (.t 158)⟩] (regK K [1, 3, 9, 10, 98, 158]) (panK K) env H := aw_reg _ _
def r6_Valid_c119 : AC := .seq r6_Valid_c118 .ret
@[simp] theorem r6_Valid_c119_eq : aw PP r6_Valid_c119 K env H = aw PP r6_Valid_c118 (seqK PP .ret K) env H := aw_seq r6_Valid_c118 .ret
def r6_Valid_c120 : AC := .seq r6_Valid_c117 r6_Valid_c119
@[simp] theorem r6_Valid_c120_eq : aw PP r6_Valid_c120 K env H = aw PP r6_Valid_c117 (seqK PP r6_Valid_c119 K) env H := aw_seq r6_Valid_c117 r6_Valid_c119
def r6_Valid_c121 : AC := .seq r6_Valid_c63 r6_Valid_c120
@[simp] theorem r6_Valid_c121_eq : aw PP r6_Valid_c121 K env H = aw PP r6_Valid_c63 (seqK PP r6_Valid_c120 K) env H := aw_seq r6_Valid_c63 r6_Valid_c120
def r6_Valid_c122 : AC := .seq r6_Valid_c62 r6_Valid_c121
@[simp] theorem r6_Valid_c122_eq : aw PP r6_Valid_c122 K env H = aw PP r6_Valid_c62 (seqK PP r6_Valid_c121 K) env H := aw_seq r6_Valid_c62 r6_Valid_c121
def r6_Valid_c123 : AC := .seq r6_Valid_c6 r6_Valid_c122
@[simp] theorem r6_Valid_c123_eq : aw PP r6_Valid_c123 K env H = aw PP r6_Valid_c6 (seqK PP r6_Valid_c122 K) env H := aw_seq r6_Valid_c6 r6_Valid_c122
def r6_Valid_c124 : AC := .seq r6_Valid_c5 r6_Valid_c123
@[simp] theorem r6_Valid_c124_eq : aw PP r6_Valid_c124 K env H = aw PP r6_Valid_c5 (seqK PP r6_Valid_c123 K) env H := aw_seq r6_Valid_c5 r6_Valid_c123
def r6_Valid_c125 : AC := .seq r6_Valid_c0 r6_Valid_c124
@[simp] theorem r6_Valid_c125_eq : aw PP r6_Valid_c125 K env H = aw PP r6_Valid_c0 (seqK PP r6_Valid_c124 K) env H := aw_seq r6_Valid_c0 r6_Valid_c124
def r6_Valid_ac : AC := r6_Valid_c125
@[simp] theorem r6_Valid_ac_eq : aw PP r6_Valid_ac K env H = aw PP r6_Valid_c125 K env H := Eq.trans rfl rfl
def r6_Valid_rs : List ARV := [.tmp 2]
abbrev r6_Valid_id : Nat := 14
theorem r6_Valid_comp : compF PP r6_Valid_kl r6_Valid_ow 1 Tryd.f14 = some (r6_Valid_ac, r6_Valid_rs) := by kernel_rfl
theorem r6_Valid_enter {args : List AV} {H : AHeap} {post : ARes → AHeap → Prop} (ha : args.length = 1) (h : aw PP r6_Valid_ac (retK r6_Valid_rs post) (argEnv 0 args) H) : ACalls PP r6_Valid_id args H post := .enterF Tryd.func14 PP_mix r6_Valid_comp ha h

/-! emendate.grammarfile.Equal -/
def gF_Equal_kl : Nat → List Nat
  | 0 => [0, 1, 4]
  | 1 => [2, 3, 5, 6, 7, 8, 9, 10, 11, 12, 13, 14, 15, 16, 17, 18, 19, 20, 21, 22, 23]
  | _ => []
def gF_Equal_ow : Nat → Nat → Bool := fun _ _ => false
def gF_Equal_c0 : AC := .reg [⟨some 2, none, .box (.t 0) 3 25⟩, ⟨some 3, none, .box (.t 1) 3 25⟩, ⟨some 4, none, .mov (.c (.bool false))⟩] [0, 1, 4]
@[simp] theorem gF_Equal_c0_eq : aw PP gF_Equal_c0 K env H = awOps PP [⟨some 2, none, .box (.t 0) 3 25⟩, ⟨some 3, none, .box (.t 1) 3 25⟩, ⟨some 4, none, .mov (.c (.bool false))⟩] (regK K [0, 1, 4]) (panK K) env H := aw_reg _ _
def gF_Equal_c1 : AC := .reg [⟨some 5, none, .fa 0 0 (.t 2)⟩, ⟨some 6, none, .ld false 1 (.t 5)⟩, ⟨some 7, none, .fa 0 0 (.t 3)⟩, ⟨some 8, none, .ld false 1 (.t 7)⟩, ⟨some 9, none, .bin (.eql) (.t 6) (.t 8)⟩, ⟨some 10, none, .mov (.t 9)⟩, ⟨some 11, some (10, true), .fa 1 1 (.t 2)⟩, ⟨some 12, some (10, true), .ld false 1 (.t 11)⟩, ⟨some 13, some (10, true), .fa 1 1 (.t 3)⟩, ⟨some 14, some (10, true), .ld false 1 (.t 13)⟩, ⟨some 15, some (10, true), .call (.c (.fn (.func 30) [] [])) [.t 12, .t 14, .c (.fn (.func 31) [] [])]⟩, ⟨some 16, none, .pick (.t 10) (.t 15) (.c (.bool false))⟩, ⟨some 17, none, .mov (.t 16)⟩, ⟨some 18, some (17, true), .fa 2 2 (.t 2)⟩, ⟨some 19, some (17, true), .ld false 1 (.t 18)⟩, ⟨some 20, some (17, true), .fa 2 2 (.t 3)⟩, ⟨some 21, some (17, true), .ld false 1 (.t 20)⟩, ⟨some 22, some (17, true), .call (.c (.fn (.func 33) [] [])) [.t 19, .t 21, .c (.fn (.func 34) [] [])]⟩, ⟨some 23, none, .pick (.t 17) (.t 22) (.c (.bool false))⟩, ⟨some 4, none, .mov (.t 23)⟩] [2, 3, 5, 6, 7, 8, 9, 10, 11, 12, 13, 14, 15, 16, 17, 18, 19, 20, 21, 22, 23]
@[simp] theorem gF_Equal_c1_eq : aw PP gF_Equal_c1 K env H = awOps PP [⟨some 5, none, .fa 0 0 (.t 2)⟩, ⟨some 6, none, .ld false 1 (.t 5)⟩, ⟨some 7, none, .fa 0 0 (.t 3)⟩, ⟨some 8, none, .ld false 1 (.t 7)⟩, ⟨some 9, none, .bin (.eql) (.t 6) (.t 8)⟩, ⟨some 10, none, .mov (.t 9)⟩, ⟨some 11, some (10, true), .fa 1 1 (.t 2)⟩, ⟨some 12, some (10, true), .ld false 1 (.t 11)⟩, ⟨some 13, some (10, true), .fa 1 1 (.t 3)⟩, ⟨some 14, some (10, true), .ld false 1 (.t 13)⟩, ⟨some 15, some (10, true), .call (.c (.fn (.func 30) [] [])) [.t 12, .t 14, .c (.fn (.func 31) [] [])]⟩, ⟨some 16, none, .pick (.t 10) (.t 15) (.c (.bool false))⟩, ⟨some 17, none, .mov (.t 16)⟩, ⟨some 18, some (17, true), .fa 2 2 (.t 2)⟩, ⟨some 19, some (17, true), .ld false 1 (.t 18)⟩, ⟨some 20, some (17, true), .fa 2 2 (.t 3)⟩, ⟨some 21, some (17, true), .ld false 1 (.t 20)⟩, ⟨some 22, some (17, true), .call (.c (.fn (.func 33) [] [])) [.t 19, .t 21, .c (.fn (.func 34) [] [])]⟩, ⟨some 23, none, .pick (.t 17) (.t 22) (.c (.bool false))⟩, ⟨some 4, none, .mov (.t 23)⟩] (regK K [2, 3, 5, 6, 7, 8, 9, 10, 11, 12, 13, 14, 15, 16, 17, 18, 19, 20, 21, 22, 23]) (panK K) env H := aw_reg _ _
def gF_Equal_c2 : AC := .seq gF_Equal_c1 .ret
@[simp] theorem gF_Equal_c2_eq : aw PP gF_Equal_c2 K env H = aw PP gF_Equal_c1 (seqK PP .ret K) env H := aw_seq gF_Equal_c1 .ret
def gF_Equal_c3 : AC := .seq gF_Equal_c0 gF_Equal_c2
@[simp] theorem gF_Equal_c3_eq : aw PP gF_Equal_c3 K env H = aw PP gF_Equal_c0 (seqK PP gF_Equal_c2 K) env H := aw_seq gF_Equal_c0 gF_Equal_c2
def gF_Equal_ac : AC := gF_Equal_c3
@[simp] theorem gF_Equal_ac_eq : aw PP gF_Equal_ac K env H = aw PP gF_Equal_c3 K env H := Eq.trans rfl rfl
def gF_Equal_rs : List ARV := [.tmp 4]
abbrev gF_Equal_id : Nat := 15
theorem gF_Equal_comp : compF PP gF_Equal_kl gF_Equal_ow 2 Tryd.f15 = some (gF_Equal_ac, gF_Equal_rs) := by kernel_rfl
theorem gF_Equal_enter {args : List AV} {H : AHeap} {post : ARes → AHeap → Prop} (ha : args.length = 2) (h : aw PP gF_Equal_ac (retK gF_Equal_rs post) (argEnv 0 args) H) : ACalls PP gF_Equal_id args H post := .enterF Tryd.func15 PP_mix gF_Equal_comp ha h

/-! emendate.grammarfile.Format -/
def gF_Format_kl : Nat → List Nat
  | 0 => [0, 2]
  | 2 => [10, 11, 12, 13, 14, 15]
  | 3 => [16]
  | 5 => [20, 21, 22]
  | 6 => [5, 23, 24, 25, 26, 27, 28, 29, 30, 31, 32, 33]
  | 7 => [34]
  | 8 => [1, 17, 18, 19, 20, 35]
  | 10 => [39, 40, 41]
  | 11 => [42, 43, 44, 45, 46]
  | 12 => [7, 47]
  | 14 => [51, 52, 53, 54]
  | 15 => [8, 55]
  | 16 => [56, 57, 58]
  | 17 => [9, 56, 59, 60]
  | 18 => [61]
  | 19 => [48, 49, 50, 51, 62, 63]
  | 20 => [64]
  | 21 => [3, 36, 37, 38, 39, 65, 66]
  | _ => []
def gF_Format_ow : Nat → Nat → Bool := fun a b => (a == 1 && b == 0)
def gF_Format_c0 : AC := .reg [⟨some 1, none, .box (.t 0) 3 25⟩, ⟨some 2, none, .mov (.c (.str []))⟩] [0, 2]
@[simp] theorem gF_Format_c0_eq : aw PP gF_Format_c0 K env H = awOps PP [⟨some 1, none, .box (.t 0) 3 25⟩, ⟨some 2, none, .mov (.c (.str []))⟩] (regK K [0, 2]) (panK K) env H := aw_reg _ _
def gF_Format_c1 : AC := .reg [⟨some 3, none, .allb 69 5⟩] []
@[simp] theorem gF_Format_c1_eq : aw PP gF_Format_c1 K env H = awOps PP [⟨some 3, none, .allb 69 5⟩] (regK K []) (panK K) env H := aw_reg _ _
def gF_Format_c2 : AC := .reg [⟨some 10, none, .fa 0 0 (.t 3)⟩, ⟨some 11, none, .fa 0 0 (.t 1)⟩, ⟨some 12, none, .ld false 1 (.t 11)⟩, ⟨some 13, none, .bin (.add) (.c (.str [115, 116, 97, 114, 116, 32])) (.t 12)⟩, ⟨some 14, none, .bin (.add) (.t 13) (.c (.str [59, 10]))⟩, ⟨some 15, none, .call (.c (.fn (.func 40) [] [])) [.t 10, .t 14]⟩] [10, 11, 12, 13, 14, 15]
@[simp] theorem gF_Format_c2_eq : aw PP gF_Format_c2 K env H = awOps PP [⟨some 10, none, .fa 0 0 (.t 3)⟩, ⟨some 11, none, .fa 0 0 (.t 1)⟩, ⟨some 12, none, .ld false 1 (.t 11)⟩, ⟨some 13, none, .bin (.add) (.c (.str [115, 116, 97, 114, 116, 32])) (.t 12)⟩, ⟨some 14, none, .bin (.add) (.t 13) (.c (.str [59, 10]))⟩, ⟨some 15, none, .call (.c (.fn (.func 40) [] [])) [.t 10, .t 14]⟩] (regK K [10, 11, 12, 13, 14, 15]) (panK K) env H := aw_reg _ _
def gF_Format_c3 : AC := .reg [⟨some 16, none, .fa 1 1 (.t 1)⟩, ⟨some 17, none, .ld false 1 (.t 16)⟩, ⟨some 18, none, .lenl (.t 17)⟩, ⟨some 19, none, .mov (.c (.int (.i64) 0))⟩] [16]
@[simp] theorem gF_Format_c3_eq : aw PP gF_Format_c3 K env H = awOps PP [⟨some 16, none, .fa 1 1 (.t 1)⟩, ⟨some 17, none, .ld false 1 (.t 16)⟩, ⟨some 18, none, .lenl (.t 17)⟩, ⟨some 19, none, .mov (.c (.int (.i64) 0))⟩] (regK K [16]) (panK K) env H := aw_reg _ _
def gF_Format_c4 : AC := .reg [⟨some 20, none, .bin (.lss) (.t 19) (.t 18)⟩] []
@[simp] theorem gF_Format_c4_eq : aw PP gF_Format_c4 K env H = awOps PP [⟨some 20, none, .bin (.lss) (.t 19) (.t 18)⟩] (regK K []) (panK K) env H := aw_reg _ _
def gF_Format_c5 : AC := .cond (.t 20) .skip (.exit 0)
@[simp] theorem gF_Format_c5_eq : aw PP gF_Format_c5 K env H = condQ PP (Opd.ev env (.t 20)) .skip (.exit 0) K env H := aw_cond _ .skip (.exit 0)
def gF_Format_c6 : AC := .reg [⟨some 21, none, .ixa 2 (.t 17) (.t 19)⟩, ⟨some 22, none, .ld true 2 (.t 21)⟩, ⟨some 5, none, .alloc (.struct [.int (.i64) 0, .nils]) 51⟩, ⟨none, none, .st 2 (.t 5) (.t 22)⟩] [20, 21, 22]
@[simp] theorem gF_Format_c6_eq : aw PP gF_Format_c6 K env H = awOps PP [⟨some 21, none, .ixa 2 (.t 17) (.t 19)⟩, ⟨some 22, none, .ld true 2 (.t 21)⟩, ⟨some 5, none, .alloc (.struct [.int (.i64) 0, .nils]) 51⟩, ⟨none, none, .st 2 (.t 5) (.t 22)⟩] (regK K [20, 21, 22]) (panK K) env H := aw_reg _ _
def gF_Format_c7_ops : List (AI × List Nat) := [(⟨some 23, none, .fa 0 0 (.t 3)⟩, []), (⟨some 24, none, .fa 0 0 (.t 5)⟩, []), (⟨some 25, none, .ld false 1 (.t 24)⟩, [1]), (⟨some 26, none, .call (.c (.fn (.func 41) [] [])) [.t 25]⟩, [2]), (⟨some 27, none, .bin (.add) (.t 26) (.c (.str [32]))⟩, [3]), (⟨some 28, none, .fa 1 1 (.t 5)⟩, []), (⟨some 29, none, .ld false 1 (.t 28)⟩, [5]), (⟨some 30, none, .call (.c (.fn (.func 42) [] [])) [.t 29, .c (.str [32])]⟩, [6, 3]), (⟨some 31, none, .bin (.add) (.t 27) (.t 30)⟩, [4, 7]), (⟨some 32, none, .bin (.add) (.t 31) (.c (.str [59, 10]))⟩, [8]), (⟨some 33, none, .call (.c (.fn (.func 40) [] [])) [.t 23, .t 32]⟩, [0, 9, 7])]
def gF_Format_c7 : AC := .dreg gF_Format_c7_ops [5, 23, 24, 25, 26, 27, 28, 29, 30, 31, 32, 33]
theorem gF_Format_c7_ok : lexOK gF_Format_c7_ops (fun i => [].contains i) = true := by kernel_rfl
theorem gF_Format_c7_lex (h : awLex PP (fun i => [].contains i) (regK K [5, 23, 24, 25, 26, 27, 28, 29, 30, 31, 32, 33]) (panK K) [(0, ⟨some 23, none, .fa 0 0 (.t 3)⟩), (1, ⟨some 24, none, .fa 0 0 (.t 5)⟩), (2, ⟨some 25, none, .ld false 1 (.t 24)⟩), (3, ⟨some 26, none, .call (.c (.fn (.func 41) [] [])) [.t 25]⟩), (4, ⟨some 27, none, .bin (.add) (.t 26) (.c (.str [32]))⟩), (5, ⟨some 28, none, .fa 1 1 (.t 5)⟩), (6, ⟨some 29, none, .ld false 1 (.t 28)⟩), (7, ⟨some 30, none, .call (.c (.fn (.func 42) [] [])) [.t 29, .c (.str [32])]⟩), (8, ⟨some 31, none, .bin (.add) (.t 27) (.t 30)⟩), (9, ⟨some 32, none, .bin (.add) (.t 31) (.c (.str [59, 10]))⟩), (10, ⟨some 33, none, .call (.c (.fn (.func 40) [] [])) [.t 23, .t 32]⟩)] env H) : aw PP gF_Format_c7 K env H := aw_dreg_lex _ gF_Format_c7_ok h
def gF_Format_c8 : AC := .seq gF_Format_c6 gF_Format_c7
@[simp] theorem gF_Format_c8_eq : aw PP gF_Format_c8 K env H = aw PP gF_Format_c6 (seqK PP gF_Format_c7 K) env H := aw_seq gF_Format_c6 gF_Format_c7
def gF_Format_c9 : AC := .block 1 gF_Format_c8
@[simp] theorem gF_Format_c9_eq : aw PP gF_Format_c9 K env H = aw PP gF_Format_c8 (blockK 1 K) env H := aw_block _ gF_Format_c8
def gF_Format_c10 : AC := .reg [⟨some 34, none, .bin (.add) (.t 19) (.c (.int (.i64) 1))⟩, ⟨some 19, none, .mov (.t 34)⟩] [34]
@[simp] theorem gF_Format_c10_eq : aw PP gF_Format_c10 K env H = awOps PP [⟨some 34, none, .bin (.add) (.t 19) (.c (.int (.i64) 1))⟩, ⟨some 19, none, .mov (.t 34)⟩] (regK K [34]) (panK K) env H := aw_reg _ _
def gF_Format_c11 : AC := .seq gF_Format_c9 gF_Format_c10
@[simp] theorem gF_Format_c11_eq : aw PP gF_Format_c11 K env H = aw PP gF_Format_c9 (seqK PP gF_Format_c10 K) env H := aw_seq gF_Format_c9 gF_Format_c10
def gF_Format_c12 : AC := .seq gF_Format_c5 gF_Format_c11
@[simp] theorem gF_Format_c12_eq : aw PP gF_Format_c12 K env H = aw PP gF_Format_c5 (seqK PP gF_Format_c11 K) env H := aw_seq gF_Format_c5 gF_Format_c11
def gF_Format_c13 : AC := .seq gF_Format_c4 gF_Format_c12
@[simp] theorem gF_Format_c13_eq : aw PP gF_Format_c13 K env H = aw PP gF_Format_c4 (seqK PP gF_Format_c12 K) env H := aw_seq gF_Format_c4 gF_Format_c12
def gF_Format_c14 : AC := .loop gF_Format_c13
def gF_Format_c15 : AC := .block 0 gF_Format_c14
@[simp] theorem gF_Format_c15_eq : aw PP gF_Format_c15 K env H = aw PP gF_Format_c14 (blockK 0 K) env H := aw_block _ gF_Format_c14
def gF_Format_c16 : AC := .seq gF_Format_c3 gF_Format_c15
@[simp] theorem gF_Format_c16_eq : aw PP gF_Format_c16 K env H = aw PP gF_Format_c3 (seqK PP gF_Format_c15 K) env H := aw_seq gF_Format_c3 gF_Format_c15
def gF_Format_c17 : AC := .reg [⟨some 35, none, .fa 2 2 (.t 1)⟩, ⟨some 36, none, .ld false 1 (.t 35)⟩, ⟨some 37, none, .lenl (.t 36)⟩, ⟨some 38, none, .mov (.c (.int (.i64) 0))⟩] [1, 17, 18, 19, 20, 35]
@[simp] theorem gF_Format_c17_eq : aw PP gF_Format_c17 K env H = awOps PP [⟨some 35, none, .fa 2 2 (.t 1)⟩, ⟨some 36, none, .ld false 1 (.t 35)⟩, ⟨some 37, none, .lenl (.t 36)⟩, ⟨some 38, none, .mov (.c (.int (.i64) 0))⟩] (regK K [1, 17, 18, 19, 20, 35]) (panK K) env H := aw_reg _ _
def gF_Format_c18 : AC := .reg [⟨some 39, none, .bin (.lss) (.t 38) (.t 37)⟩] []
@[simp] theorem gF_Format_c18_eq : aw PP gF_Format_c18 K env H = awOps PP [⟨some 39, none, .bin (.lss) (.t 38) (.t 37)⟩] (regK K []) (panK K) env H := aw_reg _ _
def gF_Format_c19 : AC := .cond (.t 39) .skip (.exit 2)
@[simp] theorem gF_Format_c19_eq : aw PP gF_Format_c19 K env H = condQ PP (Opd.ev env (.t 39)) .skip (.exit 2) K env H := aw_cond _ .skip (.exit 2)
def gF_Format_c20 : AC := .reg [⟨some 40, none, .ixa 2 (.t 36) (.t 38)⟩, ⟨some 41, none, .ld true 2 (.t 40)⟩, ⟨some 7, none, .alloc (.struct [.str [], .nils]) 41⟩, ⟨none, none, .st 2 (.t 7) (.t 41)⟩] [39, 40, 41]
@[simp] theorem gF_Format_c20_eq : aw PP gF_Format_c20 K env H = awOps PP [⟨some 40, none, .ixa 2 (.t 36) (.t 38)⟩, ⟨some 41, none, .ld true 2 (.t 40)⟩, ⟨some 7, none, .alloc (.struct [.str [], .nils]) 41⟩, ⟨none, none, .st 2 (.t 7) (.t 41)⟩] (regK K [39, 40, 41]) (panK K) env H := aw_reg _ _
def gF_Format_c21 : AC := .reg [⟨some 42, none, .fa 0 0 (.t 3)⟩, ⟨some 43, none, .fa 0 0 (.t 7)⟩, ⟨some 44, none, .ld false 1 (.t 43)⟩, ⟨some 45, none, .bin (.add) (.t 44) (.c (.str [32, 61]))⟩, ⟨some 46, none, .call (.c (.fn (.func 40) [] [])) [.t 42, .t 45]⟩] [42, 43, 44, 45, 46]
@[simp] theorem gF_Format_c21_eq : aw PP gF_Format_c21 K env H = awOps PP [⟨some 42, none, .fa 0 0 (.t 3)⟩, ⟨some 43, none, .fa 0 0 (.t 7)⟩, ⟨some 44, none, .ld false 1 (.t 43)⟩, ⟨some 45, none, .bin (.add) (.t 44) (.c (.str [32, 61]))⟩, ⟨some 46, none, .call (.c (.fn (.func 40) [] [])) [.t 42, .t 45]⟩] (regK K [42, 43, 44, 45, 46]) (panK K) env H := aw_reg _ _
def gF_Format_c22 : AC := .reg [⟨some 47, none, .fa 1 1 (.t 7)⟩, ⟨some 48, none, .ld false 1 (.t 47)⟩, ⟨some 49, none, .lenl (.t 48)⟩, ⟨some 50, none, .mov (.c (.int (.i64) 0))⟩] [7, 47]
@[simp] theorem gF_Format_c22_eq : aw PP gF_Format_c22 K env H = awOps PP [⟨some 47, none, .fa 1 1 (.t 7)⟩, ⟨some 48, none, .ld false 1 (.t 47)⟩, ⟨some 49, none, .lenl (.t 48)⟩, ⟨some 50, none, .mov (.c (.int (.i64) 0))⟩] (regK K [7, 47]) (panK K) env H := aw_reg _ _
def gF_Format_c23 : AC := .reg [⟨some 51, none, .bin (.lss) (.t 50) (.t 49)⟩] []
@[simp] theorem gF_Format_c23_eq : aw PP gF_Format_c23 K env H = awOps PP [⟨some 51, none, .bin (.lss) (.t 50) (.t 49)⟩] (regK K []) (panK K) env H := aw_reg _ _
def gF_Format_c24 : AC := .cond (.t 51) .skip (.exit 4)
@[simp] theorem gF_Format_c24_eq : aw PP gF_Format_c24 K env H = condQ PP (Opd.ev env (.t 51)) .skip (.exit 4) K env H := aw_cond _ .skip (.exit 4)
def gF_Format_c25 : AC := .reg [⟨some 52, none, .mov (.t 50)⟩, ⟨some 53, none, .ixa 4 (.t 48) (.t 50)⟩, ⟨some 54, none, .ld true 4 (.t 53)⟩, ⟨some 9, none, .alloc (.struct [.struct [.int (.i64) 0, .str [], .nils], .int (.i64) 0]) 38⟩, ⟨some 8, none, .mov (.t 52)⟩, ⟨none, none, .st 4 (.t 9) (.t 54)⟩] [51, 52, 53, 54]
@[simp] theorem gF_Format_c25_eq : aw PP gF_Format_c25 K env H = awOps PP [⟨some 52, none, .mov (.t 50)⟩, ⟨some 53, none, .ixa 4 (.t 48) (.t 50)⟩, ⟨some 54, none, .ld true 4 (.t 53)⟩, ⟨some 9, none, .alloc (.struct [.struct [.int (.i64) 0, .str [], .nils], .int (.i64) 0]) 38⟩, ⟨some 8, none, .mov (.t 52)⟩, ⟨none, none, .st 4 (.t 9) (.t 54)⟩] (regK K [51, 52, 53, 54]) (panK K) env H := aw_reg _ _
def gF_Format_c26 : AC := .reg [⟨some 55, none, .mov (.t 8)⟩, ⟨some 56, none, .bin (.gtr) (.t 55) (.c (.int (.i64) 0))⟩] [8, 55]
@[simp] theorem gF_Format_c26_eq : aw PP gF_Format_c26 K env H = awOps PP [⟨some 55, none, .mov (.t 8)⟩, ⟨some 56, none, .bin (.gtr) (.t 55) (.c (.int (.i64) 0))⟩] (regK K [8, 55]) (panK K) env H := aw_reg _ _
def gF_Format_c27 : AC := .reg [⟨some 57, none, .fa 0 0 (.t 3)⟩, ⟨some 58, none, .call (.c (.fn (.func 40) [] [])) [.t 57, .c (.str [32, 124])]⟩] [56, 57, 58]
@[simp] theorem gF_Format_c27_eq : aw PP gF_Format_c27 K env H = awOps PP [⟨some 57, none, .fa 0 0 (.t 3)⟩, ⟨some 58, none, .call (.c (.fn (.func 40) [] [])) [.t 57, .c (.str [32, 124])]⟩] (regK K [56, 57, 58]) (panK K) env H := aw_reg _ _
def gF_Format_c28 : AC := .cond (.t 56) gF_Format_c27 .skip
@[simp] theorem gF_Format_c28_eq : aw PP gF_Format_c28 K env H = condQ PP (Opd.ev env (.t 56)) gF_Format_c27 .skip K env H := aw_cond _ gF_Format_c27 .skip
def gF_Format_c29 : AC := .seq gF_Format_c26 gF_Format_c28
@[simp] theorem gF_Format_c29_eq : aw PP gF_Format_c29 K env H = aw PP gF_Format_c26 (seqK PP gF_Format_c28 K) env H := aw_seq gF_Format_c26 gF_Format_c28
def gF_Format_c30 : AC := .reg [⟨some 59, none, .ld true 4 (.t 9)⟩, ⟨some 60, none, .call (.c (.fn (.func 43) [] [])) [.t 3, .t 59]⟩] [9, 56, 59, 60]
@[simp] theorem gF_Format_c30_eq : aw PP gF_Format_c30 K env H = awOps PP [⟨some 59, none, .ld true 4 (.t 9)⟩, ⟨some 60, none, .call (.c (.fn (.func 43) [] [])) [.t 3, .t 59]⟩] (regK K [9, 56, 59, 60]) (panK K) env H := aw_reg _ _
def gF_Format_c31 : AC := .seq gF_Format_c29 gF_Format_c30
@[simp] theorem gF_Format_c31_eq : aw PP gF_Format_c31 K env H = aw PP gF_Format_c29 (seqK PP gF_Format_c30 K) env H := aw_seq gF_Format_c29 gF_Format_c30
def gF_Format_c32 : AC := .seq gF_Format_c25 gF_Format_c31
@[simp] theorem gF_Format_c32_eq : aw PP gF_Format_c32 K env H = aw PP gF_Format_c25 (seqK PP gF_Format_c31 K) env H := aw_seq gF_Format_c25 gF_Format_c31
def gF_Format_c33 : AC := .block 5 gF_Format_c32
@[simp] theorem gF_Format_c33_eq : aw PP gF_Format_c33 K env H = aw PP gF_Format_c32 (blockK 5 K) env H := aw_block _ gF_Format_c32
def gF_Format_c34 : AC := .reg [⟨some 61, none, .bin (.add) (.t 50) (.c (.int (.i64) 1))⟩, ⟨some 50, none, .mov (.t 61)⟩] [61]
@[simp] theorem gF_Format_c34_eq : aw PP gF_Format_c34 K env H = awOps PP [⟨some 61, none, .bin (.add) (.t 50) (.c (.int (.i64) 1))⟩, ⟨some 50, none, .mov (.t 61)⟩] (regK K [61]) (panK K) env H := aw_reg _ _
def gF_Format_c35 : AC := .seq gF_Format_c33 gF_Format_c34
@[simp] theorem gF_Format_c35_eq : aw PP gF_Format_c35 K env H = aw PP gF_Format_c33 (seqK PP gF_Format_c34 K) env H := aw_seq gF_Format_c33 gF_Format_c34
def gF_Format_c36 : AC := .seq gF_Format_c24 gF_Format_c35
@[simp] theorem gF_Format_c36_eq : aw PP gF_Format_c36 K env H = aw PP gF_Format_c24 (seqK PP gF_Format_c35 K) env H := aw_seq gF_Format_c24 gF_Format_c35
def gF_Format_c37 : AC := .seq gF_Format_c23 gF_Format_c36
@[simp] theorem gF_Format_c37_eq : aw PP gF_Format_c37 K env H = aw PP gF_Format_c23 (seqK PP gF_Format_c36 K) env H := aw_seq gF_Format_c23 gF_Format_c36
def gF_Format_c38 : AC := .loop gF_Format_c37
def gF_Format_c39 : AC := .block 4 gF_Format_c38
@[simp] theorem gF_Format_c39_eq : aw PP gF_Format_c39 K env H = aw PP gF_Format_c38 (blockK 4 K) env H := aw_block _ gF_Format_c38
def gF_Format_c40 : AC := .seq gF_Format_c22 gF_Format_c39
@[simp] theorem gF_Format_c40_eq : aw PP gF_Format_c40 K env H = aw PP gF_Format_c22 (seqK PP gF_Format_c39 K) env H := aw_seq gF_Format_c22 gF_Format_c39
def gF_Format_c41 : AC := .reg [⟨some 62, none, .fa 0 0 (.t 3)⟩, ⟨some 63, none, .call (.c (.fn (.func 40) [] [])) [.t 62, .c (.str [59, 10])]⟩] [48, 49, 50, 51, 62, 63]
@[simp] theorem gF_Format_c41_eq : aw PP gF_Format_c41 K env H = awOps PP [⟨some 62, none, .fa 0 0 (.t 3)⟩, ⟨some 63, none, .call (.c (.fn (.func 40) [] [])) [.t 62, .c (.str [59, 10])]⟩] (regK K [48, 49, 50, 51, 62, 63]) (panK K) env H := aw_reg _ _
def gF_Format_c42 : AC := .seq gF_Format_c40 gF_Format_c41
@[simp] theorem gF_Format_c42_eq : aw PP gF_Format_c42 K env H = aw PP gF_Format_c40 (seqK PP gF_Format_c41 K) env H := aw_seq gF_Format_c40 gF_Format_c41
def gF_Format_c43 : AC := .seq gF_Format_c21 gF_Format_c42
@[simp] theorem gF_Format_c43_eq : aw PP gF_Format_c43 K env H = aw PP gF_Format_c21 (seqK PP gF_Format_c42 K) env H := aw_seq gF_Format_c21 gF_Format_c42
def gF_Format_c44 : AC := .seq gF_Format_c20 gF_Format_c43
@[simp] theorem gF_Format_c44_eq : aw PP gF_Format_c44 K env H = aw PP gF_Format_c20 (seqK PP gF_Format_c43 K) env H := aw_seq gF_Format_c20 gF_Format_c43
def gF_Format_c45 : AC := .block 3 gF_Format_c44
@[simp] theorem gF_Format_c45_eq : aw PP gF_Format_c45 K env H = aw PP gF_Format_c44 (blockK 3 K) env H := aw_block _ gF_Format_c44
def gF_Format_c46 : AC := .reg [⟨some 64, none, .bin (.add) (.t 38) (.c (.int (.i64) 1))⟩, ⟨some 38, none, .mov (.t 64)⟩] [64]
@[simp] theorem gF_Format_c46_eq : aw PP gF_Format_c46 K env H = awOps PP [⟨some 64, none, .bin (.add) (.t 38) (.c (.int (.i64) 1))⟩, ⟨some 38, none, .mov (.t 64)⟩] (regK K [64]) (panK K) env H := aw_reg _ _
def gF_Format_c47 : AC := .seq gF_Format_c45 gF_Format_c46
@[simp] theorem gF_Format_c47_eq : aw PP gF_Format_c47 K env H = aw PP gF_Format_c45 (seqK PP gF_Format_c46 K) env H := aw_seq gF_Format_c45 gF_Format_c46
def gF_Format_c48 : AC := .seq gF_Format_c19 gF_Format_c47
@[simp] theorem gF_Format_c48_eq : aw PP gF_Format_c48 K env H = aw PP gF_Format_c19 (seqK PP gF_Format_c47 K) env H := aw_seq gF_Format_c19 gF_Format_c47
def gF_Format_c49 : AC := .seq gF_Format_c18 gF_Format_c48
@[simp] theorem gF_Format_c49_eq : aw PP gF_Format_c49 K env H = aw PP gF_Format_c18 (seqK PP gF_Format_c48 K) env H := aw_seq gF_Format_c18 gF_Format_c48
def gF_Format_c50 : AC := .loop gF_Format_c49
def gF_Format_c51 : AC := .block 2 gF_Format_c50
@[simp] theorem gF_Format_c51_eq : aw PP gF_Format_c51 K env H = aw PP gF_Format_c50 (blockK 2 K) env H := aw_block _ gF_Format_c50
def gF_Format_c52 : AC := .seq gF_Format_c17 gF_Format_c51
@[simp] theorem gF_Format_c52_eq : aw PP gF_Format_c52 K env H = aw PP gF_Format_c17 (seqK PP gF_Format_c51 K) env H := aw_seq gF_Format_c17 gF_Format_c51
def gF_Format_c53 : AC := .reg [⟨some 65, none, .fa 0 0 (.t 3)⟩, ⟨some 66, none, .call (.c (.fn (.func 44) [] [])) [.t 65]⟩, ⟨some 2, none, .mov (.t 66)⟩] [3, 36, 37, 38, 39, 65, 66]
@[simp] theorem gF_Format_c53_eq : aw PP gF_Format_c53 K env H = awOps PP [⟨some 65, none, .fa 0 0 (.t 3)⟩, ⟨some 66, none, .call (.c (.fn (.func 44) [] [])) [.t 65]⟩, ⟨some 2, none, .mov (.t 66)⟩] (regK K [3, 36, 37, 38, 39, 65, 66]) (panK K) env H := aw_reg _ _
def gF_Format_c54 : AC := .seq gF_Format_c53 .ret
@[simp] theorem gF_Format_c54_eq : aw PP gF_Format_c54 K env H = aw PP gF_Format_c53 (seqK PP .ret K) env H := aw_seq gF_Format_c53 .ret
def gF_Format_c55 : AC := .seq gF_Format_c52 gF_Format_c54
@[simp] theorem gF_Format_c55_eq : aw PP gF_Format_c55 K env H = aw PP gF_Format_c52 (seqK PP gF_Format_c54 K) env H := aw_seq gF_Format_c52 gF_Format_c54
def gF_Format_c56 : AC := .seq gF_Format_c16 gF_Format_c55
@[simp] theorem gF_Format_c56_eq : aw PP gF_Format_c56 K env H = aw PP gF_Format_c16 (seqK PP gF_Format_c55 K) env H := aw_seq gF_Format_c16 gF_Format_c55
def gF_Format_c57 : AC := .seq gF_Format_c2 gF_Format_c56
@[simp] theorem gF_Format_c57_eq : aw PP gF_Format_c57 K env H = aw PP gF_Format_c2 (seqK PP gF_Format_c56 K) env H := aw_seq gF_Format_c2 gF_Format_c56
def gF_Format_c58 : AC := .seq gF_Format_c1 gF_Format_c57
@[simp] theorem gF_Format_c58_eq : aw PP gF_Format_c58 K env H = aw PP gF_Format_c1 (seqK PP gF_Format_c57 K) env H := aw_seq gF_Format_c1 gF_Format_c57
def gF_Format_c59 : AC := .seq gF_Format_c0 gF_Format_c58
@[simp] theorem gF_Format_c59_eq : aw PP gF_Format_c59 K env H = aw PP gF_Format_c0 (seqK PP gF_Format_c58 K) env H := aw_seq gF_Format_c0 gF_Format_c58
def gF_Format_ac : AC := gF_Format_c59
@[simp] theorem gF_Format_ac_eq : aw PP gF_Format_ac K env H = aw PP gF_Format_c59 K env H := Eq.trans rfl rfl
def gF_Format_rs : List ARV := [.tmp 2]
abbrev gF_Format_id : Nat := 17
theorem gF_Format_comp : compF PP gF_Format_kl gF_Format_ow 1 Tryd.f17 = some (gF_Format_ac, gF_Format_rs) := by kernel_rfl
theorem gF_Format_enter {args : List AV} {H : AHeap} {post : ARes → AHeap → Prop} (ha : args.length = 1) (h : aw PP gF_Format_ac (retK gF_Format_rs post) (argEnv 0 args) H) : ACalls PP gF_Format_id args H post := .enterF Tryd.func17 PP_mix gF_Format_comp ha h

/-! emendate.emendatelaw16.name -/
def lS_name_kl : Nat → List Nat
  | 1 => [0, 3, 4]
  | _ => []
def lS_name_ow : Nat → Nat → Bool := fun _ _ => false
def lS_name_c0 : AC := .reg [⟨some 2, none, .alloc (.struct [.int (.i64) 0, .str [], .nils]) 33⟩] []
@[simp] theorem lS_name_c0_eq : aw PP lS_name_c0 K env H = awOps PP [⟨some 2, none, .alloc (.struct [.int (.i64) 0, .str [], .nils]) 33⟩] (regK K []) (panK K) env H := aw_reg _ _
def lS_name_c1 : AC := .reg [⟨some 3, none, .mov (.t 0)⟩, ⟨some 4, none, .build [.int (.i64) 0, .str [], .nils] [(0, .c (.int (.i64) 1)), (1, .t 3)]⟩, ⟨none, none, .st 3 (.t 2) (.t 4)⟩] [0, 3, 4]
@[simp] theorem lS_name_c1_eq : aw PP lS_name_c1 K env H = awOps PP [⟨some 3, none, .mov (.t 0)⟩, ⟨some 4, none, .build [.int (.i64) 0, .str [], .nils] [(0, .c (.int (.i64) 1)), (1, .t 3)]⟩, ⟨none, none, .st 3 (.t 2) (.t 4)⟩] (regK K [0, 3, 4]) (panK K) env H := aw_reg _ _
def lS_name_c2 : AC := .seq lS_name_c1 .ret
@[simp] theorem lS_name_c2_eq : aw PP lS_name_c2 K env H = aw PP lS_name_c1 (seqK PP .ret K) env H := aw_seq lS_name_c1 .ret
def lS_name_c3 : AC := .seq lS_name_c0 lS_name_c2
@[simp] theorem lS_name_c3_eq : aw PP lS_name_c3 K env H = aw PP lS_name_c0 (seqK PP lS_name_c2 K) env H := aw_seq lS_name_c0 lS_name_c2
def lS_name_ac : AC := lS_name_c3
@[simp] theorem lS_name_ac_eq : aw PP lS_name_ac K env H = aw PP lS_name_c3 K env H := Eq.trans rfl rfl
def lS_name_rs : List ARV := [.cell 2 true 3]
abbrev lS_name_id : Nat := 19
theorem lS_name_comp : compF PP lS_name_kl lS_name_ow 1 Tryd.f19 = some (lS_name_ac, lS_name_rs) := by kernel_rfl
theorem lS_name_enter {args : List AV} {H : AHeap} {post : ARes → AHeap → Prop} (ha : args.length = 1) (h : aw PP lS_name_ac (retK lS_name_rs post) (argEnv 0 args) H) : ACalls PP lS_name_id args H post := .enterF Tryd.func19 PP_mix lS_name_comp ha h

/-! emendate.emendatelaw16.of -/
def lS_of_kl : Nat → List Nat
  | 1 => [0, 1, 5, 6, 7]
  | _ => []
def lS_of_ow : Nat → Nat → Bool := fun _ _ => false
def lS_of_c0 : AC := .reg [⟨some 4, none, .alloc (.struct [.int (.i64) 0, .str [], .nils]) 33⟩] []
@[simp] theorem lS_of_c0_eq : aw PP lS_of_c0 K env H = awOps PP [⟨some 4, none, .alloc (.struct [.int (.i64) 0, .str [], .nils]) 33⟩] (regK K []) (panK K) env H := aw_reg _ _
def lS_of_c1 : AC := .reg [⟨some 5, none, .mov (.t 0)⟩, ⟨some 6, none, .mov (.t 1)⟩, ⟨some 7, none, .build [.int (.i64) 0, .str [], .nils] [(0, .t 5), (2, .t 6)]⟩, ⟨none, none, .st 3 (.t 4) (.t 7)⟩] [0, 1, 5, 6, 7]
@[simp] theorem lS_of_c1_eq : aw PP lS_of_c1 K env H = awOps PP [⟨some 5, none, .mov (.t 0)⟩, ⟨some 6, none, .mov (.t 1)⟩, ⟨some 7, none, .build [.int (.i64) 0, .str [], .nils] [(0, .t 5), (2, .t 6)]⟩, ⟨none, none, .st 3 (.t 4) (.t 7)⟩] (regK K [0, 1, 5, 6, 7]) (panK K) env H := aw_reg _ _
def lS_of_c2 : AC := .seq lS_of_c1 .ret
@[simp] theorem lS_of_c2_eq : aw PP lS_of_c2 K env H = aw PP lS_of_c1 (seqK PP .ret K) env H := aw_seq lS_of_c1 .ret
def lS_of_c3 : AC := .seq lS_of_c0 lS_of_c2
@[simp] theorem lS_of_c3_eq : aw PP lS_of_c3 K env H = aw PP lS_of_c0 (seqK PP lS_of_c2 K) env H := aw_seq lS_of_c0 lS_of_c2
def lS_of_ac : AC := lS_of_c3
@[simp] theorem lS_of_ac_eq : aw PP lS_of_ac K env H = aw PP lS_of_c3 K env H := Eq.trans rfl rfl
def lS_of_rs : List ARV := [.cell 4 true 3]
abbrev lS_of_id : Nat := 20
theorem lS_of_comp : compF PP lS_of_kl lS_of_ow 2 Tryd.f20 = some (lS_of_ac, lS_of_rs) := by kernel_rfl
theorem lS_of_enter {args : List AV} {H : AHeap} {post : ARes → AHeap → Prop} (ha : args.length = 2) (h : aw PP lS_of_ac (retK lS_of_rs post) (argEnv 0 args) H) : ACalls PP lS_of_id args H post := .enterF Tryd.func20 PP_mix lS_of_comp ha h

/-! emendate.emendatelaw16.example -/
def lS_example_kl : Nat → List Nat
  | 1 => [1, 2, 3, 4, 5, 6, 7, 8, 9, 10, 11, 12, 13, 14, 15, 16, 17, 18, 19, 20, 21, 22, 23, 24]
  | _ => []
def lS_example_ow : Nat → Nat → Bool := fun _ _ => false
def lS_example_c0 : AC := .reg [⟨some 0, none, .alloc (.struct [.str [], .nils, .nils]) 25⟩] []
@[simp] theorem lS_example_c0_eq : aw PP lS_example_c0 K env H = awOps PP [⟨some 0, none, .alloc (.struct [.str [], .nils, .nils]) 25⟩] (regK K []) (panK K) env H := aw_reg _ _
def lS_example_c1 : AC := .reg [⟨some 1, none, .call (.c (.fn (.func 19) [] [])) [.c (.str [101])]⟩, ⟨some 2, none, .call (.c (.fn (.func 19) [] [])) [.c (.str [112, 108, 117, 115])]⟩, ⟨some 3, none, .call (.c (.fn (.func 19) [] [])) [.c (.str [101])]⟩, ⟨some 4, none, .bsl false 33 3 3 (.struct [.int (.i64) 0, .str [], .nils]) [(0, .t 1), (1, .t 2), (2, .t 3)]⟩, ⟨some 5, none, .call (.c (.fn (.func 20) [] [])) [.c (.int (.i64) 2), .t 4]⟩, ⟨some 6, none, .build [.struct [.int (.i64) 0, .str [], .nils], .int (.i64) 0] [(0, .t 5), (1, .c (.int (.i64) 2))]⟩, ⟨some 7, none, .call (.c (.fn (.func 19) [] [])) [.c (.str [110])]⟩, ⟨some 8, none, .build [.struct [.int (.i64) 0, .str [], .nils], .int (.i64) 0] [(0, .t 7)]⟩, ⟨some 9, none, .bsl false 38 4 2 (.struct [.struct [.int (.i64) 0, .str [], .nils], .int (.i64) 0]) [(0, .t 6), (1, .t 8)]⟩, ⟨some 10, none, .build [.str [], .nils] [(0, .c (.str [101])), (1, .t 9)]⟩, ⟨some 11, none, .call (.c (.fn (.func 19) [] [])) [.c (.str [97])]⟩, ⟨some 12, none, .call (.c (.fn (.func 19) [] [])) [.c (.str [98])]⟩, ⟨some 13, none, .call (.c (.fn (.func 19) [] [])) [.c (.str [99])]⟩, ⟨some 14, none, .bsl false 33 3 2 (.struct [.int (.i64) 0, .str [], .nils]) [(0, .t 12), (1, .t 13)]⟩, ⟨some 15, none, .call (.c (.fn (.func 20) [] [])) [.c (.int (.i64) 3), .t 14]⟩, ⟨some 16, none, .bsl false 33 3 1 (.struct [.int (.i64) 0, .str [], .nils]) [(0, .t 15)]⟩, ⟨some 17, none, .call (.c (.fn (.func 20) [] [])) [.c (.int (.i64) 5), .t 16]⟩, ⟨some 18, none, .bsl false 33 3 2 (.struct [.int (.i64) 0, .str [], .nils]) [(0, .t 11), (1, .t 17)]⟩, ⟨some 19, none, .call (.c (.fn (.func 20) [] [])) [.c (.int (.i64) 2), .t 18]⟩, ⟨some 20, none, .build [.struct [.int (.i64) 0, .str [], .nils], .int (.i64) 0] [(0, .t 19)]⟩, ⟨some 21, none, .bsl false 38 4 1 (.struct [.struct [.int (.i64) 0, .str [], .nils], .int (.i64) 0]) [(0, .t 20)]⟩, ⟨some 22, none, .build [.str [], .nils] [(0, .c (.str [110])), (1, .t 21)]⟩, ⟨some 23, none, .bsl false 41 2 2 (.struct [.str [], .nils]) [(0, .t 10), (1, .t 22)]⟩, ⟨some 24, none, .build [.str [], .nils, .nils] [(0, .c (.str [101])), (2, .t 23)]⟩, ⟨none, none, .st 3 (.t 0) (.t 24)⟩] [1, 2, 3, 4, 5, 6, 7, 8, 9, 10, 11, 12, 13, 14, 15, 16, 17, 18, 19, 20, 21, 22, 23, 24]
@[simp] theorem lS_example_c1_eq : aw PP lS_example_c1 K env H = awOps PP [⟨some 1, none, .call (.c (.fn (.func 19) [] [])) [.c (.str [101])]⟩, ⟨some 2, none, .call (.c (.fn (.func 19) [] [])) [.c (.str [112, 108, 117, 115])]⟩, ⟨some 3, none, .call (.c (.fn (.func 19) [] [])) [.c (.str [101])]⟩, ⟨some 4, none, .bsl false 33 3 3 (.struct [.int (.i64) 0, .str [], .nils]) [(0, .t 1), (1, .t 2), (2, .t 3)]⟩, ⟨some 5, none, .call (.c (.fn (.func 20) [] [])) [.c (.int (.i64) 2), .t 4]⟩, ⟨some 6, none, .build [.struct [.int (.i64) 0, .str [], .nils], .int (.i64) 0] [(0, .t 5), (1, .c (.int (.i64) 2))]⟩, ⟨some 7, none, .call (.c (.fn (.func 19) [] [])) [.c (.str [110])]⟩, ⟨some 8, none, .build [.struct [.int (.i64) 0, .str [], .nils], .int (.i64) 0] [(0, .t 7)]⟩, ⟨some 9, none, .bsl false 38 4 2 (.struct [.struct [.int (.i64) 0, .str [], .nils], .int (.i64) 0]) [(0, .t 6), (1, .t 8)]⟩, ⟨some 10, none, .build [.str [], .nils] [(0, .c (.str [101])), (1, .t 9)]⟩, ⟨some 11, none, .call (.c (.fn (.func 19) [] [])) [.c (.str [97])]⟩, ⟨some 12, none, .call (.c (.fn (.func 19) [] [])) [.c (.str [98])]⟩, ⟨some 13, none, .call (.c (.fn (.func 19) [] [])) [.c (.str [99])]⟩, ⟨some 14, none, .bsl false 33 3 2 (.struct [.int (.i64) 0, .str [], .nils]) [(0, .t 12), (1, .t 13)]⟩, ⟨some 15, none, .call (.c (.fn (.func 20) [] [])) [.c (.int (.i64) 3), .t 14]⟩, ⟨some 16, none, .bsl false 33 3 1 (.struct [.int (.i64) 0, .str [], .nils]) [(0, .t 15)]⟩, ⟨some 17, none, .call (.c (.fn (.func 20) [] [])) [.c (.int (.i64) 5), .t 16]⟩, ⟨some 18, none, .bsl false 33 3 2 (.struct [.int (.i64) 0, .str [], .nils]) [(0, .t 11), (1, .t 17)]⟩, ⟨some 19, none, .call (.c (.fn (.func 20) [] [])) [.c (.int (.i64) 2), .t 18]⟩, ⟨some 20, none, .build [.struct [.int (.i64) 0, .str [], .nils], .int (.i64) 0] [(0, .t 19)]⟩, ⟨some 21, none, .bsl false 38 4 1 (.struct [.struct [.int (.i64) 0, .str [], .nils], .int (.i64) 0]) [(0, .t 20)]⟩, ⟨some 22, none, .build [.str [], .nils] [(0, .c (.str [110])), (1, .t 21)]⟩, ⟨some 23, none, .bsl false 41 2 2 (.struct [.str [], .nils]) [(0, .t 10), (1, .t 22)]⟩, ⟨some 24, none, .build [.str [], .nils, .nils] [(0, .c (.str [101])), (2, .t 23)]⟩, ⟨none, none, .st 3 (.t 0) (.t 24)⟩] (regK K [1, 2, 3, 4, 5, 6, 7, 8, 9, 10, 11, 12, 13, 14, 15, 16, 17, 18, 19, 20, 21, 22, 23, 24]) (panK K) env H := aw_reg _ _
def lS_example_c2 : AC := .seq lS_example_c1 .ret
@[simp] theorem lS_example_c2_eq : aw PP lS_example_c2 K env H = aw PP lS_example_c1 (seqK PP .ret K) env H := aw_seq lS_example_c1 .ret
def lS_example_c3 : AC := .seq lS_example_c0 lS_example_c2
@[simp] theorem lS_example_c3_eq : aw PP lS_example_c3 K env H = aw PP lS_example_c0 (seqK PP lS_example_c2 K) env H := aw_seq lS_example_c0 lS_example_c2
def lS_example_ac : AC := lS_example_c3
@[simp] theorem lS_example_ac_eq : aw PP lS_example_ac K env H = aw PP lS_example_c3 K env H := Eq.trans rfl rfl
def lS_example_rs : List ARV := [.cell 0 true 3]
abbrev lS_example_id : Nat := 21
theorem lS_example_comp : compF PP lS_example_kl lS_example_ow 0 Tryd.f21 = some (lS_example_ac, lS_example_rs) := by kernel_rfl
theorem lS_example_enter {args : List AV} {H : AHeap} {post : ARes → AHeap → Prop} (ha : args.length = 0) (h : aw PP lS_example_ac (retK lS_example_rs post) (argEnv 0 args) H) : ACalls PP lS_example_id args H post := .enterF Tryd.func21 PP_mix lS_example_comp ha h

/-! emendate.emendateref16.Size -/
def r6_Size_kl : Nat → List Nat
  | 0 => [0, 4]
  | 3 => [9, 10, 11, 12, 13, 14, 15, 16, 17]
  | 4 => [19, 20]
  | 5 => [18, 21, 22, 23, 24, 25, 26, 27, 28, 29, 30]
  | 6 => [6, 18]
  | 7 => [31, 32, 33, 34, 35, 36, 37, 38, 39]
  | 8 => [8, 41, 42, 58]
  | 9 => [40, 43, 44]
  | 11 => [45, 46, 47, 48, 49, 50, 51, 52, 53, 54, 55, 56, 57]
  | 12 => [59, 60]
  | 13 => [58, 61, 62, 63, 64, 65, 66, 67, 68, 69, 70, 71, 72, 73, 74, 75, 76, 77]
  | 14 => [1, 2, 5, 7, 40, 78]
  | _ => []
def r6_Size_ow : Nat → Nat → Bool := fun _ _ => false
def r6_Size_c0 : AC := .reg [⟨some 2, none, .box (.t 0) 3 25⟩, ⟨some 4, none, .mov (.c (.int (.i64) 0))⟩] [0, 4]
@[simp] theorem r6_Size_c0_eq : aw PP r6_Size_c0 K env H = awOps PP [⟨some 2, none, .box (.t 0) 3 25⟩, ⟨some 4, none, .mov (.c (.int (.i64) 0))⟩] (regK K [0, 4]) (panK K) env H := aw_reg _ _
def r6_Size_c1 : AC := .reg [⟨some 5, none, .mov (.c (.int (.i64) 0))⟩] []
@[simp] theorem r6_Size_c1_eq : aw PP r6_Size_c1 K env H = awOps PP [⟨some 5, none, .mov (.c (.int (.i64) 0))⟩] (regK K []) (panK K) env H := aw_reg _ _
def r6_Size_c2 : AC := .reg [⟨some 6, none, .mov (.c (.int (.i64) 0))⟩] []
@[simp] theorem r6_Size_c2_eq : aw PP r6_Size_c2 K env H = awOps PP [⟨some 6, none, .mov (.c (.int (.i64) 0))⟩] (regK K []) (panK K) env H := aw_reg _ _
def r6_Size_c3 : AC := .reg [⟨some 9, none, .mov (.t 6)⟩, ⟨some 10, none, .fa 1 1 (.t 2)⟩, ⟨some 11, none, .ld false 1 (.t 10)⟩, ⟨some 12, none, .lenl (.t 11)⟩, ⟨some 13, none, .bin (.lss) (.t 9) (.t 12)⟩, ⟨some 14, none, .mov (.t 13)⟩, ⟨some 15, some (14, true), .mov (.t 5)⟩, ⟨some 16, some (14, true), .mov (.t 1)⟩, ⟨some 17, some (14, true), .bin (.leq) (.t 15) (.t 16)⟩, ⟨some 18, none, .pick (.t 14) (.t 17) (.c (.bool false))⟩] [9, 10, 11, 12, 13, 14, 15, 16, 17]
@[simp] theorem r6_Size_c3_eq : aw PP r6_Size_c3 K env H = awOps PP [⟨some 9, none, .mov (.t 6)⟩, ⟨some 10, none, .fa 1 1 (.t 2)⟩, ⟨some 11, none, .ld false 1 (.t 10)⟩, ⟨some 12, none, .lenl (.t 11)⟩, ⟨some 13, none, .bin (.lss) (.t 9) (.t 12)⟩, ⟨some 14, none, .mov (.t 13)⟩, ⟨some 15, some (14, true), .mov (.t 5)⟩, ⟨some 16, some (14, true), .mov (.t 1)⟩, ⟨some 17, some (14, true), .bin (.leq) (.t 15) (.t 16)⟩, ⟨some 18, none, .pick (.t 14) (.t 17) (.c (.bool false))⟩] (regK K [9, 10, 11, 12, 13, 14, 15, 16, 17]) (panK K) env H := aw_reg _ _
def r6_Size_c4 : AC := .cond (.t 18) .skip (.exit 0)
@[simp] theorem r6_Size_c4_eq : aw PP r6_Size_c4 K env H = condQ PP (Opd.ev env (.t 18)) .skip (.exit 0) K env H := aw_cond _ .skip (.exit 0)
def r6_Size_c5 : AC := .seq r6_Size_c3 r6_Size_c4
@[simp] theorem r6_Size_c5_eq : aw PP r6_Size_c5 K env H = aw PP r6_Size_c3 (seqK PP r6_Size_c4 K) env H := aw_seq r6_Size_c3 r6_Size_c4
def r6_Size_c6 : AC := .reg [⟨some 21, none, .mov (.t 5)⟩, ⟨some 22, none, .bin (.add) (.t 21) (.c (.int (.i64) 1))⟩, ⟨some 23, none, .fa 1 1 (.t 2)⟩, ⟨some 24, none, .ld false 1 (.t 23)⟩, ⟨some 25, none, .mov (.t 6)⟩, ⟨some 26, none, .ixa 2 (.t 24) (.t 25)⟩, ⟨some 27, none, .fa 1 1 (.t 26)⟩, ⟨some 28, none, .ld false 1 (.t 27)⟩, ⟨some 29, none, .lenl (.t 28)⟩, ⟨some 30, none, .bin (.add) (.t 22) (.t 29)⟩, ⟨some 5, none, .mov (.t 30)⟩] [18, 21, 22, 23, 24, 25, 26, 27, 28, 29, 30]
@[simp] theorem r6_Size_c6_eq : aw PP r6_Size_c6 K env H = awOps PP [⟨some 21, none, .mov (.t 5)⟩, ⟨some 22, none, .bin (.add) (.t 21) (.c (.int (.i64) 1))⟩, ⟨some 23, none, .fa 1 1 (.t 2)⟩, ⟨some 24, none, .ld false 1 (.t 23)⟩, ⟨some 25, none, .mov (.t 6)⟩, ⟨some 26, none, .ixa 2 (.t 24) (.t 25)⟩, ⟨some 27, none, .fa 1 1 (.t 26)⟩, ⟨some 28, none, .ld false 1 (.t 27)⟩, ⟨some 29, none, .lenl (.t 28)⟩, ⟨some 30, none, .bin (.add) (.t 22) (.t 29)⟩, ⟨some 5, none, .mov (.t 30)⟩] (regK K [18, 21, 22, 23, 24, 25, 26, 27, 28, 29, 30]) (panK K) env H := aw_reg _ _
def r6_Size_c7 : AC := .block 1 r6_Size_c6
@[simp] theorem r6_Size_c7_eq : aw PP r6_Size_c7 K env H = aw PP r6_Size_c6 (blockK 1 K) env H := aw_block _ r6_Size_c6
def r6_Size_c8 : AC := .reg [⟨some 19, none, .mov (.t 6)⟩, ⟨some 20, none, .bin (.add) (.t 19) (.c (.int (.i64) 1))⟩, ⟨some 6, none, .mov (.t 20)⟩] [19, 20]
@[simp] theorem r6_Size_c8_eq : aw PP r6_Size_c8 K env H = awOps PP [⟨some 19, none, .mov (.t 6)⟩, ⟨some 20, none, .bin (.add) (.t 19) (.c (.int (.i64) 1))⟩, ⟨some 6, none, .mov (.t 20)⟩] (regK K [19, 20]) (panK K) env H := aw_reg _ _
def r6_Size_c9 : AC := .seq r6_Size_c7 r6_Size_c8
@[simp] theorem r6_Size_c9_eq : aw PP r6_Size_c9 K env H = aw PP r6_Size_c7 (seqK PP r6_Size_c8 K) env H := aw_seq r6_Size_c7 r6_Size_c8
def r6_Size_c10 : AC := .seq r6_Size_c5 r6_Size_c9
@[simp] theorem r6_Size_c10_eq : aw PP r6_Size_c10 K env H = aw PP r6_Size_c5 (seqK PP r6_Size_c9 K) env H := aw_seq r6_Size_c5 r6_Size_c9
def r6_Size_c11 : AC := .loop r6_Size_c10
def r6_Size_c12 : AC := .block 0 r6_Size_c11
@[simp] theorem r6_Size_c12_eq : aw PP r6_Size_c12 K env H = aw PP r6_Size_c11 (blockK 0 K) env H := aw_block _ r6_Size_c11
def r6_Size_c13 : AC := .seq r6_Size_c2 r6_Size_c12
@[simp] theorem r6_Size_c13_eq : aw PP r6_Size_c13 K env H = aw PP r6_Size_c2 (seqK PP r6_Size_c12 K) env H := aw_seq r6_Size_c2 r6_Size_c12
def r6_Size_c14 : AC := .reg [⟨some 7, none, .mov (.c (.int (.i64) 0))⟩] [6, 18]
@[simp] theorem r6_Size_c14_eq : aw PP r6_Size_c14 K env H = awOps PP [⟨some 7, none, .mov (.c (.int (.i64) 0))⟩] (regK K [6, 18]) (panK K) env H := aw_reg _ _
def r6_Size_c15 : AC := .reg [⟨some 31, none, .mov (.t 7)⟩, ⟨some 32, none, .fa 2 2 (.t 2)⟩, ⟨some 33, none, .ld false 1 (.t 32)⟩, ⟨some 34, none, .lenl (.t 33)⟩, ⟨some 35, none, .bin (.lss) (.t 31) (.t 34)⟩, ⟨some 36, none, .mov (.t 35)⟩, ⟨some 37, some (36, true), .mov (.t 5)⟩, ⟨some 38, some (36, true), .mov (.t 1)⟩, ⟨some 39, some (36, true), .bin (.leq) (.t 37) (.t 38)⟩, ⟨some 40, none, .pick (.t 36) (.t 39) (.c (.bool false))⟩] [31, 32, 33, 34, 35, 36, 37, 38, 39]
@[simp] theorem r6_Size_c15_eq : aw PP r6_Size_c15 K env H = awOps PP [⟨some 31, none, .mov (.t 7)⟩, ⟨some 32, none, .fa 2 2 (.t 2)⟩, ⟨some 33, none, .ld false 1 (.t 32)⟩, ⟨some 34, none, .lenl (.t 33)⟩, ⟨some 35, none, .bin (.lss) (.t 31) (.t 34)⟩, ⟨some 36, none, .mov (.t 35)⟩, ⟨some 37, some (36, true), .mov (.t 5)⟩, ⟨some 38, some (36, true), .mov (.t 1)⟩, ⟨some 39, some (36, true), .bin (.leq) (.t 37) (.t 38)⟩, ⟨some 40, none, .pick (.t 36) (.t 39) (.c (.bool false))⟩] (regK K [31, 32, 33, 34, 35, 36, 37, 38, 39]) (panK K) env H := aw_reg _ _
def r6_Size_c16 : AC := .cond (.t 40) .skip (.exit 2)
@[simp] theorem r6_Size_c16_eq : aw PP r6_Size_c16 K env H = condQ PP (Opd.ev env (.t 40)) .skip (.exit 2) K env H := aw_cond _ .skip (.exit 2)
def r6_Size_c17 : AC := .seq r6_Size_c15 r6_Size_c16
@[simp] theorem r6_Size_c17_eq : aw PP r6_Size_c17 K env H = aw PP r6_Size_c15 (seqK PP r6_Size_c16 K) env H := aw_seq r6_Size_c15 r6_Size_c16
def r6_Size_c18 : AC := .reg [⟨some 43, none, .mov (.t 5)⟩, ⟨some 44, none, .bin (.add) (.t 43) (.c (.int (.i64) 1))⟩, ⟨some 5, none, .mov (.t 44)⟩] [40, 43, 44]
@[simp] theorem r6_Size_c18_eq : aw PP r6_Size_c18 K env H = awOps PP [⟨some 43, none, .mov (.t 5)⟩, ⟨some 44, none, .bin (.add) (.t 43) (.c (.int (.i64) 1))⟩, ⟨some 5, none, .mov (.t 44)⟩] (regK K [40, 43, 44]) (panK K) env H := aw_reg _ _
def r6_Size_c19 : AC := .reg [⟨some 8, none, .mov (.c (.int (.i64) 0))⟩] []
@[simp] theorem r6_Size_c19_eq : aw PP r6_Size_c19 K env H = awOps PP [⟨some 8, none, .mov (.c (.int (.i64) 0))⟩] (regK K []) (panK K) env H := aw_reg _ _
def r6_Size_c20 : AC := .reg [⟨some 45, none, .mov (.t 8)⟩, ⟨some 46, none, .fa 2 2 (.t 2)⟩, ⟨some 47, none, .ld false 1 (.t 46)⟩, ⟨some 48, none, .mov (.t 7)⟩, ⟨some 49, none, .ixa 2 (.t 47) (.t 48)⟩, ⟨some 50, none, .fa 1 1 (.t 49)⟩, ⟨some 51, none, .ld false 1 (.t 50)⟩, ⟨some 52, none, .lenl (.t 51)⟩, ⟨some 53, none, .bin (.lss) (.t 45) (.t 52)⟩, ⟨some 54, none, .mov (.t 53)⟩, ⟨some 55, some (54, true), .mov (.t 5)⟩, ⟨some 56, some (54, true), .mov (.t 1)⟩, ⟨some 57, some (54, true), .bin (.leq) (.t 55) (.t 56)⟩, ⟨some 58, none, .pick (.t 54) (.t 57) (.c (.bool false))⟩] [45, 46, 47, 48, 49, 50, 51, 52, 53, 54, 55, 56, 57]
@[simp] theorem r6_Size_c20_eq : aw PP r6_Size_c20 K env H = awOps PP [⟨some 45, none, .mov (.t 8)⟩, ⟨some 46, none, .fa 2 2 (.t 2)⟩, ⟨some 47, none, .ld false 1 (.t 46)⟩, ⟨some 48, none, .mov (.t 7)⟩, ⟨some 49, none, .ixa 2 (.t 47) (.t 48)⟩, ⟨some 50, none, .fa 1 1 (.t 49)⟩, ⟨some 51, none, .ld false 1 (.t 50)⟩, ⟨some 52, none, .lenl (.t 51)⟩, ⟨some 53, none, .bin (.lss) (.t 45) (.t 52)⟩, ⟨some 54, none, .mov (.t 53)⟩, ⟨some 55, some (54, true), .mov (.t 5)⟩, ⟨some 56, some (54, true), .mov (.t 1)⟩, ⟨some 57, some (54, true), .bin (.leq) (.t 55) (.t 56)⟩, ⟨some 58, none, .pick (.t 54) (.t 57) (.c (.bool false))⟩] (regK K [45, 46, 47, 48, 49, 50, 51, 52, 53, 54, 55, 56, 57]) (panK K) env H := aw_reg _ _
def r6_Size_c21 : AC := .cond (.t 58) .skip (.exit 4)
@[simp] theorem r6_Size_c21_eq : aw PP r6_Size_c21 K env H = condQ PP (Opd.ev env (.t 58)) .skip (.exit 4) K env H := aw_cond _ .skip (.exit 4)
def r6_Size_c22 : AC := .seq r6_Size_c20 r6_Size_c21
@[simp] theorem r6_Size_c22_eq : aw PP r6_Size_c22 K env H = aw PP r6_Size_c20 (seqK PP r6_Size_c21 K) env H := aw_seq r6_Size_c20 r6_Size_c21
def r6_Size_c23 : AC := .reg [⟨some 61, none, .mov (.t 5)⟩, ⟨some 62, none, .bin (.add) (.t 61) (.c (.int (.i64) 1))⟩, ⟨some 63, none, .fa 2 2 (.t 2)⟩, ⟨some 64, none, .ld false 1 (.t 63)⟩, ⟨some 65, none, .mov (.t 7)⟩, ⟨some 66, none, .ixa 2 (.t 64) (.t 65)⟩, ⟨some 67, none, .fa 1 1 (.t 66)⟩, ⟨some 68, none, .ld false 1 (.t 67)⟩, ⟨some 69, none, .mov (.t 8)⟩, ⟨some 70, none, .ixa 4 (.t 68) (.t 69)⟩, ⟨some 71, none, .fa 0 0 (.t 70)⟩, ⟨some 72, none, .ld true 3 (.t 71)⟩, ⟨some 73, none, .mov (.t 1)⟩, ⟨some 74, none, .mov (.t 5)⟩, ⟨some 75, none, .bin (.sub) (.t 73) (.t 74)⟩, ⟨some 76, none, .call (.c (.fn (.func 46) [] [])) [.t 72, .t 75]⟩, ⟨some 77, none, .bin (.add) (.t 62) (.t 76)⟩, ⟨some 5, none, .mov (.t 77)⟩] [58, 61, 62, 63, 64, 65, 66, 67, 68, 69, 70, 71, 72, 73, 74, 75, 76, 77]
@[simp] theorem r6_Size_c23_eq : aw PP r6_Size_c23 K env H = awOps PP [⟨some 61, none, .mov (.t 5)⟩, ⟨some 62, none, .bin (.add) (.t 61) (.c (.int (.i64) 1))⟩, ⟨some 63, none, .fa 2 2 (.t 2)⟩, ⟨some 64, none, .ld false 1 (.t 63)⟩, ⟨some 65, none, .mov (.t 7)⟩, ⟨some 66, none, .ixa 2 (.t 64) (.t 65)⟩, ⟨some 67, none, .fa 1 1 (.t 66)⟩, ⟨some 68, none, .ld false 1 (.t 67)⟩, ⟨some 69, none, .mov (.t 8)⟩, ⟨some 70, none, .ixa 4 (.t 68) (.t 69)⟩, ⟨some 71, none, .fa 0 0 (.t 70)⟩, ⟨some 72, none, .ld true 3 (.t 71)⟩, ⟨some 73, none, .mov (.t 1)⟩, ⟨some 74, none, .mov (.t 5)⟩, ⟨some 75, none, .bin (.sub) (.t 73) (.t 74)⟩, ⟨some 76, none, .call (.c (.fn (.func 46) [] [])) [.t 72, .t 75]⟩, ⟨some 77, none, .bin (.add) (.t 62) (.t 76)⟩, ⟨some 5, none, .mov (.t 77)⟩] (regK K [58, 61, 62, 63, 64, 65, 66, 67, 68, 69, 70, 71, 72, 73, 74, 75, 76, 77]) (panK K) env H := aw_reg _ _
def r6_Size_c24 : AC := .block 5 r6_Size_c23
@[simp] theorem r6_Size_c24_eq : aw PP r6_Size_c24 K env H = aw PP r6_Size_c23 (blockK 5 K) env H := aw_block _ r6_Size_c23
def r6_Size_c25 : AC := .reg [⟨some 59, none, .mov (.t 8)⟩, ⟨some 60, none, .bin (.add) (.t 59) (.c (.int (.i64) 1))⟩, ⟨some 8, none, .mov (.t 60)⟩] [59, 60]
@[simp] theorem r6_Size_c25_eq : aw PP r6_Size_c25 K env H = awOps PP [⟨some 59, none, .mov (.t 8)⟩, ⟨some 60, none, .bin (.add) (.t 59) (.c (.int (.i64) 1))⟩, ⟨some 8, none, .mov (.t 60)⟩] (regK K [59, 60]) (panK K) env H := aw_reg _ _
def r6_Size_c26 : AC := .seq r6_Size_c24 r6_Size_c25
@[simp] theorem r6_Size_c26_eq : aw PP r6_Size_c26 K env H = aw PP r6_Size_c24 (seqK PP r6_Size_c25 K) env H := aw_seq r6_Size_c24 r6_Size_c25
def r6_Size_c27 : AC := .seq r6_Size_c22 r6_Size_c26
@[simp] theorem r6_Size_c27_eq : aw PP r6_Size_c27 K env H = aw PP r6_Size_c22 (seqK PP r6_Size_c26 K) env H := aw_seq r6_Size_c22 r6_Size_c26
def r6_Size_c28 : AC := .loop r6_Size_c27
def r6_Size_c29 : AC := .block 4 r6_Size_c28
@[simp] theorem r6_Size_c29_eq : aw PP r6_Size_c29 K env H = aw PP r6_Size_c28 (blockK 4 K) env H := aw_block _ r6_Size_c28
def r6_Size_c30 : AC := .seq r6_Size_c19 r6_Size_c29
@[simp] theorem r6_Size_c30_eq : aw PP r6_Size_c30 K env H = aw PP r6_Size_c19 (seqK PP r6_Size_c29 K) env H := aw_seq r6_Size_c19 r6_Size_c29
def r6_Size_c31 : AC := .seq r6_Size_c18 r6_Size_c30
@[simp] theorem r6_Size_c31_eq : aw PP r6_Size_c31 K env H = aw PP r6_Size_c18 (seqK PP r6_Size_c30 K) env H := aw_seq r6_Size_c18 r6_Size_c30
def r6_Size_c32 : AC := .block 3 r6_Size_c31
@[simp] theorem r6_Size_c32_eq : aw PP r6_Size_c32 K env H = aw PP r6_Size_c31 (blockK 3 K) env H := aw_block _ r6_Size_c31
def r6_Size_c33 : AC := .reg [⟨some 41, none, .mov (.t 7)⟩, ⟨some 42, none, .bin (.add) (.t 41) (.c (.int (.i64) 1))⟩, ⟨some 7, none, .mov (.t 42)⟩] [8, 41, 42, 58]
@[simp] theorem r6_Size_c33_eq : aw PP r6_Size_c33 K env H = awOps PP [⟨some 41, none, .mov (.t 7)⟩, ⟨some 42, none, .bin (.add) (.t 41) (.c (.int (.i64) 1))⟩, ⟨some 7, none, .mov (.t 42)⟩] (regK K [8, 41, 42, 58]) (panK K) env H := aw_reg _ _
def r6_Size_c34 : AC := .seq r6_Size_c32 r6_Size_c33
@[simp] theorem r6_Size_c34_eq : aw PP r6_Size_c34 K env H = aw PP r6_Size_c32 (seqK PP r6_Size_c33 K) env H := aw_seq r6_Size_c32 r6_Size_c33
def r6_Size_c35 : AC := .seq r6_Size_c17 r6_Size_c34
@[simp] theorem r6_Size_c35_eq : aw PP r6_Size_c35 K env H = aw PP r6_Size_c17 (seqK PP r6_Size_c34 K) env H := aw_seq r6_Size_c17 r6_Size_c34
def r6_Size_c36 : AC := .loop r6_Size_c35
def r6_Size_c37 : AC := .block 2 r6_Size_c36
@[simp] theorem r6_Size_c37_eq : aw PP r6_Size_c37 K env H = aw PP r6_Size_c36 (blockK 2 K) env H := aw_block _ r6_Size_c36
def r6_Size_c38 : AC := .seq r6_Size_c14 r6_Size_c37
@[simp] theorem r6_Size_c38_eq : aw PP r6_Size_c38 K env H = aw PP r6_Size_c14 (seqK PP r6_Size_c37 K) env H := aw_seq r6_Size_c14 r6_Size_c37
def r6_Size_c39 : AC := .reg [⟨some 78, none, .mov (.t 5)⟩, ⟨some 4, none, .mov (.t 78)⟩] [1, 2, 5, 7, 40, 78]
@[simp] theorem r6_Size_c39_eq : aw PP r6_Size_c39 K env H = awOps PP [⟨some 78, none, .mov (.t 5)⟩, ⟨some 4, none, .mov (.t 78)⟩] (regK K [1, 2, 5, 7, 40, 78]) (panK K) env H := aw_reg _ _
def r6_Size_c40 : AC := .seq r6_Size_c39 .ret
@[simp] theorem r6_Size_c40_eq : aw PP r6_Size_c40 K env H = aw PP r6_Size_c39 (seqK PP .ret K) env H := aw_seq r6_Size_c39 .ret
def r6_Size_c41 : AC := .seq r6_Size_c38 r6_Size_c40
@[simp] theorem r6_Size_c41_eq : aw PP r6_Size_c41 K env H = aw PP r6_Size_c38 (seqK PP r6_Size_c40 K) env H := aw_seq r6_Size_c38 r6_Size_c40
def r6_Size_c42 : AC := .seq r6_Size_c13 r6_Size_c41
@[simp] theorem r6_Size_c42_eq : aw PP r6_Size_c42 K env H = aw PP r6_Size_c13 (seqK PP r6_Size_c41 K) env H := aw_seq r6_Size_c13 r6_Size_c41
def r6_Size_c43 : AC := .seq r6_Size_c1 r6_Size_c42
@[simp] theorem r6_Size_c43_eq : aw PP r6_Size_c43 K env H = aw PP r6_Size_c1 (seqK PP r6_Size_c42 K) env H := aw_seq r6_Size_c1 r6_Size_c42
def r6_Size_c44 : AC := .seq r6_Size_c0 r6_Size_c43
@[simp] theorem r6_Size_c44_eq : aw PP r6_Size_c44 K env H = aw PP r6_Size_c0 (seqK PP r6_Size_c43 K) env H := aw_seq r6_Size_c0 r6_Size_c43
def r6_Size_ac : AC := r6_Size_c44
@[simp] theorem r6_Size_ac_eq : aw PP r6_Size_ac K env H = aw PP r6_Size_c44 K env H := Eq.trans rfl rfl
def r6_Size_rs : List ARV := [.tmp 4]
abbrev r6_Size_id : Nat := 22
theorem r6_Size_comp : compF PP r6_Size_kl r6_Size_ow 2 Tryd.f22 = some (r6_Size_ac, r6_Size_rs) := by kernel_rfl
theorem r6_Size_enter {args : List AV} {H : AHeap} {post : ARes → AHeap → Prop} (ha : args.length = 2) (h : aw PP r6_Size_ac (retK r6_Size_rs post) (argEnv 0 args) H) : ACalls PP r6_Size_id args H post := .enterF Tryd.func22 PP_mix r6_Size_comp ha h

end Go.Av
