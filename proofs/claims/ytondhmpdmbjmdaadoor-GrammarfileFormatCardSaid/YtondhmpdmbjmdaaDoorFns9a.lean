/- Functions of the given program, compiled to the own form by program. -/
import Derived.Test.YtondhmpdmbjmdaaDoorProg
import Derived.KernelRfl
import Derived.Test.YtondhmpdmbjmdaaDoorAvF
import Derived.Test.YtondhmpdmbjmdaaDoorFns66
set_option linter.unusedVariables false
set_option linter.unusedSimpArgs false
namespace Go.Av
open Go Go.Proofs
variable {K : AK} {env : Env} {H : AHeap}
-- taken in parts: emendate.grammarparser.Parse
def gP_Parse_kl : Nat → List Nat
  | 1 => [7]
  | 2 => [0, 8, 9, 10, 11, 12, 13]
  | 3 => [14, 15]
  | 4 => [16, 17, 18]
  | 5 => [19, 20]
  | 6 => [21, 22, 23]
  | 8 => [24, 25, 26, 27, 28]
  | 9 => [29, 30, 31, 32, 33, 34]
  | 10 => [5, 6, 29, 35, 36]
  | 11 => [37, 38]
  | 12 => [39, 40]
  | 13 => [39, 41]
  | _ => []
def gP_Parse_ow : Nat → Nat → Bool := fun _ _ => false
abbrev gP_Parse_id : Nat := 24
def gP_Parse_c0 : AC := .reg [⟨some 2, none, .alloc (.struct [.str [], .nils, .nils]) 25⟩, ⟨some 3, none, .alloc (.int (.i64) 0) 3⟩, ⟨some 4, none, .alloc (.int (.i64) 0) 44⟩] []
@[simp] theorem gP_Parse_c0_eq : aw PP gP_Parse_c0 K env H = awOps PP [⟨some 2, none, .alloc (.struct [.str [], .nils, .nils]) 25⟩, ⟨some 3, none, .alloc (.int (.i64) 0) 3⟩, ⟨some 4, none, .alloc (.int (.i64) 0) 44⟩] (regK K []) (panK K) env H := aw_reg _ _
def gP_Parse_p0_ac : AC := gP_Parse_c0
@[simp] theorem gP_Parse_p0_ac_eq : aw PP gP_Parse_p0_ac K env H = aw PP gP_Parse_c0 K env H := Eq.trans rfl rfl
theorem gP_Parse_p0_comp : comp PP gP_Parse_kl gP_Parse_ow 42 (codeAt (bodyOf Tryd.f24) [0]) = some gP_Parse_p0_ac := by kernel_rfl
def gP_Parse_c1 : AC := .reg [⟨some 8, none, .mov (.t 0)⟩, ⟨some 9, none, .call (.c (.fn (.func 48) [] [])) [.t 8]⟩, ⟨some 10, none, .mov (.t 0)⟩, ⟨some 11, none, .lens (.t 10)⟩, ⟨some 12, none, .build [.nils, .int (.i64) 0] [(0, .t 9), (1, .t 11)]⟩, ⟨some 13, none, .box (.t 12) 2 85⟩, ⟨some 5, none, .mov (.t 13)⟩] [0, 8, 9, 10, 11, 12, 13]
@[simp] theorem gP_Parse_c1_eq : aw PP gP_Parse_c1 K env H = awOps PP [⟨some 8, none, .mov (.t 0)⟩, ⟨some 9, none, .call (.c (.fn (.func 48) [] [])) [.t 8]⟩, ⟨some 10, none, .mov (.t 0)⟩, ⟨some 11, none, .lens (.t 10)⟩, ⟨some 12, none, .build [.nils, .int (.i64) 0] [(0, .t 9), (1, .t 11)]⟩, ⟨some 13, none, .box (.t 12) 2 85⟩, ⟨some 5, none, .mov (.t 13)⟩] (regK K [0, 8, 9, 10, 11, 12, 13]) (panK K) env H := aw_reg _ _
def gP_Parse_c2 : AC := .reg [⟨some 14, none, .mov (.t 5)⟩, ⟨some 15, none, .call (.c (.fn (.func 49) [] [])) [.t 14, .c (.str [115, 116, 97, 114, 116])]⟩] [14, 15]
@[simp] theorem gP_Parse_c2_eq : aw PP gP_Parse_c2 K env H = awOps PP [⟨some 14, none, .mov (.t 5)⟩, ⟨some 15, none, .call (.c (.fn (.func 49) [] [])) [.t 14, .c (.str [115, 116, 97, 114, 116])]⟩] (regK K [14, 15]) (panK K) env H := aw_reg _ _
def gP_Parse_c3 : AC := .reg [⟨some 16, none, .mov (.t 5)⟩, ⟨some 17, none, .call (.c (.fn (.func 50) [] [])) [.t 16]⟩, ⟨some 18, none, .fa 0 0 (.t 2)⟩, ⟨none, none, .st 1 (.t 18) (.t 17)⟩] [16, 17, 18]
@[simp] theorem gP_Parse_c3_eq : aw PP gP_Parse_c3 K env H = awOps PP [⟨some 16, none, .mov (.t 5)⟩, ⟨some 17, none, .call (.c (.fn (.func 50) [] [])) [.t 16]⟩, ⟨some 18, none, .fa 0 0 (.t 2)⟩, ⟨none, none, .st 1 (.t 18) (.t 17)⟩] (regK K [16, 17, 18]) (panK K) env H := aw_reg _ _
def gP_Parse_c4 : AC := .reg [⟨some 19, none, .mov (.t 5)⟩, ⟨some 20, none, .call (.c (.fn (.func 49) [] [])) [.t 19, .c (.str [59])]⟩] [19, 20]
@[simp] theorem gP_Parse_c4_eq : aw PP gP_Parse_c4 K env H = awOps PP [⟨some 19, none, .mov (.t 5)⟩, ⟨some 20, none, .call (.c (.fn (.func 49) [] [])) [.t 19, .c (.str [59])]⟩] (regK K [19, 20]) (panK K) env H := aw_reg _ _
def gP_Parse_c5 : AC := .reg [⟨some 21, none, .mov (.t 5)⟩, ⟨some 22, none, .call (.c (.fn (.func 51) [] [])) [.t 21]⟩, ⟨some 23, none, .fa 1 1 (.t 2)⟩, ⟨none, none, .st 1 (.t 23) (.t 22)⟩] [21, 22, 23]
@[simp] theorem gP_Parse_c5_eq : aw PP gP_Parse_c5 K env H = awOps PP [⟨some 21, none, .mov (.t 5)⟩, ⟨some 22, none, .call (.c (.fn (.func 51) [] [])) [.t 21]⟩, ⟨some 23, none, .fa 1 1 (.t 2)⟩, ⟨none, none, .st 1 (.t 23) (.t 22)⟩] (regK K [21, 22, 23]) (panK K) env H := aw_reg _ _
def gP_Parse_c6 : AC := .reg [⟨some 6, none, .mov (.c (.nils))⟩] []
@[simp] theorem gP_Parse_c6_eq : aw PP gP_Parse_c6 K env H = awOps PP [⟨some 6, none, .mov (.c (.nils))⟩] (regK K []) (panK K) env H := aw_reg _ _
def gP_Parse_c7 : AC := .reg [⟨some 24, none, .mov (.t 5)⟩, ⟨some 25, none, .nilc (.t 24)⟩, ⟨some 26, none, .fa 0 0 (.t 25)⟩, ⟨some 27, none, .ld false 1 (.t 26)⟩, ⟨some 28, none, .lenl (.t 27)⟩, ⟨some 29, none, .bin (.gtr) (.t 28) (.c (.int (.i64) 0))⟩] [24, 25, 26, 27, 28]
@[simp] theorem gP_Parse_c7_eq : aw PP gP_Parse_c7 K env H = awOps PP [⟨some 24, none, .mov (.t 5)⟩, ⟨some 25, none, .nilc (.t 24)⟩, ⟨some 26, none, .fa 0 0 (.t 25)⟩, ⟨some 27, none, .ld false 1 (.t 26)⟩, ⟨some 28, none, .lenl (.t 27)⟩, ⟨some 29, none, .bin (.gtr) (.t 28) (.c (.int (.i64) 0))⟩] (regK K [24, 25, 26, 27, 28]) (panK K) env H := aw_reg _ _
def gP_Parse_c8 : AC := .cond (.t 29) .skip (.exit 0)
@[simp] theorem gP_Parse_c8_eq : aw PP gP_Parse_c8 K env H = condQ PP (Opd.ev env (.t 29)) .skip (.exit 0) K env H := aw_cond _ .skip (.exit 0)
def gP_Parse_c9 : AC := .seq gP_Parse_c7 gP_Parse_c8
@[simp] theorem gP_Parse_c9_eq : aw PP gP_Parse_c9 K env H = aw PP gP_Parse_c7 (seqK PP gP_Parse_c8 K) env H := aw_seq gP_Parse_c7 gP_Parse_c8
def gP_Parse_c10 : AC := .reg [⟨some 30, none, .mov (.t 6)⟩, ⟨some 31, none, .mov (.t 5)⟩, ⟨some 32, none, .call (.c (.fn (.func 52) [] [])) [.t 31]⟩, ⟨some 33, none, .bsl false 41 2 1 (.struct [.str [], .nils]) [(0, .t 32)]⟩, ⟨some 34, none, .app 41 2 40 (.t 30) (.t 33)⟩, ⟨some 6, none, .mov (.t 34)⟩] [29, 30, 31, 32, 33, 34]
@[simp] theorem gP_Parse_c10_eq : aw PP gP_Parse_c10 K env H = awOps PP [⟨some 30, none, .mov (.t 6)⟩, ⟨some 31, none, .mov (.t 5)⟩, ⟨some 32, none, .call (.c (.fn (.func 52) [] [])) [.t 31]⟩, ⟨some 33, none, .bsl false 41 2 1 (.struct [.str [], .nils]) [(0, .t 32)]⟩, ⟨some 34, none, .app 41 2 40 (.t 30) (.t 33)⟩, ⟨some 6, none, .mov (.t 34)⟩] (regK K [29, 30, 31, 32, 33, 34]) (panK K) env H := aw_reg _ _
def gP_Parse_c11 : AC := .block 1 gP_Parse_c10
@[simp] theorem gP_Parse_c11_eq : aw PP gP_Parse_c11 K env H = aw PP gP_Parse_c10 (blockK 1 K) env H := aw_block _ gP_Parse_c10
def gP_Parse_c12 : AC := .seq gP_Parse_c9 gP_Parse_c11
@[simp] theorem gP_Parse_c12_eq : aw PP gP_Parse_c12 K env H = aw PP gP_Parse_c9 (seqK PP gP_Parse_c11 K) env H := aw_seq gP_Parse_c9 gP_Parse_c11
def gP_Parse_c13 : AC := .loop gP_Parse_c12
def gP_Parse_c14 : AC := .block 0 gP_Parse_c13
@[simp] theorem gP_Parse_c14_eq : aw PP gP_Parse_c14 K env H = aw PP gP_Parse_c13 (blockK 0 K) env H := aw_block _ gP_Parse_c13
def gP_Parse_c15 : AC := .reg [⟨some 35, none, .mov (.t 6)⟩, ⟨some 36, none, .fa 2 2 (.t 2)⟩, ⟨none, none, .st 1 (.t 36) (.t 35)⟩] [5, 6, 29, 35, 36]
@[simp] theorem gP_Parse_c15_eq : aw PP gP_Parse_c15 K env H = awOps PP [⟨some 35, none, .mov (.t 6)⟩, ⟨some 36, none, .fa 2 2 (.t 2)⟩, ⟨none, none, .st 1 (.t 36) (.t 35)⟩] (regK K [5, 6, 29, 35, 36]) (panK K) env H := aw_reg _ _
def gP_Parse_c16 : AC := .reg [⟨some 37, none, .ld true 3 (.t 2)⟩, ⟨some 38, none, .call (.c (.fn (.func 13) [] [])) [.t 37]⟩, ⟨some 39, none, .not (.t 38)⟩] [37, 38]
@[simp] theorem gP_Parse_c16_eq : aw PP gP_Parse_c16 K env H = awOps PP [⟨some 37, none, .ld true 3 (.t 2)⟩, ⟨some 38, none, .call (.c (.fn (.func 13) [] [])) [.t 37]⟩, ⟨some 39, none, .not (.t 38)⟩] (regK K [37, 38]) (panK K) env H := aw_reg _ _
def gP_Parse_c17 : AC := .reg [⟨some 40, none, .build [.str [], .nils, .nils] []⟩, ⟨none, none, .st 3 (.t 2) (.t 40)⟩, ⟨none, none, .st 1 (.t 3) (.c (.int (.i64) 0))⟩, ⟨none, none, .st 1 (.t 4) (.c (.int (.i64) 1))⟩] [39, 40]
@[simp] theorem gP_Parse_c17_eq : aw PP gP_Parse_c17 K env H = awOps PP [⟨some 40, none, .build [.str [], .nils, .nils] []⟩, ⟨none, none, .st 3 (.t 2) (.t 40)⟩, ⟨none, none, .st 1 (.t 3) (.c (.int (.i64) 0))⟩, ⟨none, none, .st 1 (.t 4) (.c (.int (.i64) 1))⟩] (regK K [39, 40]) (panK K) env H := aw_reg _ _
def gP_Parse_c18 : AC := .seq gP_Parse_c17 .ret
@[simp] theorem gP_Parse_c18_eq : aw PP gP_Parse_c18 K env H = aw PP gP_Parse_c17 (seqK PP .ret K) env H := aw_seq gP_Parse_c17 .ret
def gP_Parse_c19 : AC := .cond (.t 39) gP_Parse_c18 .skip
@[simp] theorem gP_Parse_c19_eq : aw PP gP_Parse_c19 K env H = condQ PP (Opd.ev env (.t 39)) gP_Parse_c18 .skip K env H := aw_cond _ gP_Parse_c18 .skip
def gP_Parse_c20 : AC := .seq gP_Parse_c16 gP_Parse_c19
@[simp] theorem gP_Parse_c20_eq : aw PP gP_Parse_c20 K env H = aw PP gP_Parse_c16 (seqK PP gP_Parse_c19 K) env H := aw_seq gP_Parse_c16 gP_Parse_c19
def gP_Parse_c21 : AC := .reg [⟨some 41, none, .ld true 3 (.t 2)⟩, ⟨none, none, .st 3 (.t 2) (.t 41)⟩, ⟨none, none, .st 1 (.t 3) (.c (.int (.i64) 0))⟩, ⟨none, none, .st 1 (.t 4) (.c (.int (.i64) 0))⟩] [39, 41]
@[simp] theorem gP_Parse_c21_eq : aw PP gP_Parse_c21 K env H = awOps PP [⟨some 41, none, .ld true 3 (.t 2)⟩, ⟨none, none, .st 3 (.t 2) (.t 41)⟩, ⟨none, none, .st 1 (.t 3) (.c (.int (.i64) 0))⟩, ⟨none, none, .st 1 (.t 4) (.c (.int (.i64) 0))⟩] (regK K [39, 41]) (panK K) env H := aw_reg _ _
def gP_Parse_c22 : AC := .seq gP_Parse_c21 .ret
@[simp] theorem gP_Parse_c22_eq : aw PP gP_Parse_c22 K env H = aw PP gP_Parse_c21 (seqK PP .ret K) env H := aw_seq gP_Parse_c21 .ret
def gP_Parse_c23 : AC := .seq gP_Parse_c20 gP_Parse_c22
@[simp] theorem gP_Parse_c23_eq : aw PP gP_Parse_c23 K env H = aw PP gP_Parse_c20 (seqK PP gP_Parse_c22 K) env H := aw_seq gP_Parse_c20 gP_Parse_c22
def gP_Parse_c24 : AC := .seq gP_Parse_c15 gP_Parse_c23
@[simp] theorem gP_Parse_c24_eq : aw PP gP_Parse_c24 K env H = aw PP gP_Parse_c15 (seqK PP gP_Parse_c23 K) env H := aw_seq gP_Parse_c15 gP_Parse_c23
def gP_Parse_c25 : AC := .seq gP_Parse_c14 gP_Parse_c24
@[simp] theorem gP_Parse_c25_eq : aw PP gP_Parse_c25 K env H = aw PP gP_Parse_c14 (seqK PP gP_Parse_c24 K) env H := aw_seq gP_Parse_c14 gP_Parse_c24
def gP_Parse_c26 : AC := .seq gP_Parse_c6 gP_Parse_c25
@[simp] theorem gP_Parse_c26_eq : aw PP gP_Parse_c26 K env H = aw PP gP_Parse_c6 (seqK PP gP_Parse_c25 K) env H := aw_seq gP_Parse_c6 gP_Parse_c25
def gP_Parse_c27 : AC := .seq gP_Parse_c5 gP_Parse_c26
@[simp] theorem gP_Parse_c27_eq : aw PP gP_Parse_c27 K env H = aw PP gP_Parse_c5 (seqK PP gP_Parse_c26 K) env H := aw_seq gP_Parse_c5 gP_Parse_c26
def gP_Parse_c28 : AC := .seq gP_Parse_c4 gP_Parse_c27
@[simp] theorem gP_Parse_c28_eq : aw PP gP_Parse_c28 K env H = aw PP gP_Parse_c4 (seqK PP gP_Parse_c27 K) env H := aw_seq gP_Parse_c4 gP_Parse_c27
def gP_Parse_c29 : AC := .seq gP_Parse_c3 gP_Parse_c28
@[simp] theorem gP_Parse_c29_eq : aw PP gP_Parse_c29 K env H = aw PP gP_Parse_c3 (seqK PP gP_Parse_c28 K) env H := aw_seq gP_Parse_c3 gP_Parse_c28
def gP_Parse_c30 : AC := .seq gP_Parse_c2 gP_Parse_c29
@[simp] theorem gP_Parse_c30_eq : aw PP gP_Parse_c30 K env H = aw PP gP_Parse_c2 (seqK PP gP_Parse_c29 K) env H := aw_seq gP_Parse_c2 gP_Parse_c29
def gP_Parse_c31 : AC := .seq gP_Parse_c1 gP_Parse_c30
@[simp] theorem gP_Parse_c31_eq : aw PP gP_Parse_c31 K env H = aw PP gP_Parse_c1 (seqK PP gP_Parse_c30 K) env H := aw_seq gP_Parse_c1 gP_Parse_c30
def gP_Parse_p1_ac : AC := gP_Parse_c31
@[simp] theorem gP_Parse_p1_ac_eq : aw PP gP_Parse_p1_ac K env H = aw PP gP_Parse_c31 K env H := Eq.trans rfl rfl
theorem gP_Parse_p1_comp : comp PP gP_Parse_kl gP_Parse_ow 42 (codeAt (bodyOf Tryd.f24) [1, 1]) = some gP_Parse_p1_ac := by kernel_rfl
def gP_Parse_rs : List ARV := [.cell 2 true 3, .cell 3 false 1, .cell 4 false 1]
theorem gP_Parse_rsc : compRes PP Tryd.f24.results.toList = some gP_Parse_rs := by kernel_rfl

end Go.Av
