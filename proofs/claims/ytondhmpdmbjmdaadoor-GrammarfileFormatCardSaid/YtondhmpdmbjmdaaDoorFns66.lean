/- Functions of the given program, compiled to the own form by program. -/
import Derived.Test.YtondhmpdmbjmdaaDoorProg
import Derived.KernelRfl
import Derived.Test.YtondhmpdmbjmdaaDoorAvF
import Derived.Test.YtondhmpdmbjmdaaDoorFns41
set_option linter.unusedVariables false
set_option linter.unusedSimpArgs false
namespace Go.Av
open Go Go.Proofs
variable {K : AK} {env : Env} {H : AHeap}
/-! emendate.grammarfile.expr$1 -/
def gF_expr_1_kl : Nat → List Nat
  | 0 => [0, 3]
  | 1 => [1, 2, 4, 5, 6, 7, 8]
  | _ => []
def gF_expr_1_ow : Nat → Nat → Bool := fun _ _ => false
def gF_expr_1_c0 : AC := .reg [⟨some 2, none, .box (.t 0) 3 33⟩, ⟨some 3, none, .mov (.c (.bool false))⟩] [0, 3]
@[simp] theorem gF_expr_1_c0_eq : aw PP gF_expr_1_c0 K env H = awOps PP [⟨some 2, none, .box (.t 0) 3 33⟩, ⟨some 3, none, .mov (.c (.bool false))⟩] (regK K [0, 3]) (panK K) env H := aw_reg _ _
def gF_expr_1_c1 : AC := .reg [⟨some 4, none, .ld true 3 (.t 2)⟩, ⟨some 5, none, .ld false 1 (.t 1)⟩, ⟨some 6, none, .bin (.sub) (.t 5) (.c (.int (.i64) 1))⟩, ⟨some 7, none, .call (.c (.fn (.func 55) [] [])) [.t 4, .t 6]⟩, ⟨some 8, none, .not (.t 7)⟩, ⟨some 3, none, .mov (.t 8)⟩] [1, 2, 4, 5, 6, 7, 8]
@[simp] theorem gF_expr_1_c1_eq : aw PP gF_expr_1_c1 K env H = awOps PP [⟨some 4, none, .ld true 3 (.t 2)⟩, ⟨some 5, none, .ld false 1 (.t 1)⟩, ⟨some 6, none, .bin (.sub) (.t 5) (.c (.int (.i64) 1))⟩, ⟨some 7, none, .call (.c (.fn (.func 55) [] [])) [.t 4, .t 6]⟩, ⟨some 8, none, .not (.t 7)⟩, ⟨some 3, none, .mov (.t 8)⟩] (regK K [1, 2, 4, 5, 6, 7, 8]) (panK K) env H := aw_reg _ _
def gF_expr_1_c2 : AC := .seq gF_expr_1_c1 .ret
@[simp] theorem gF_expr_1_c2_eq : aw PP gF_expr_1_c2 K env H = aw PP gF_expr_1_c1 (seqK PP .ret K) env H := aw_seq gF_expr_1_c1 .ret
def gF_expr_1_c3 : AC := .seq gF_expr_1_c0 gF_expr_1_c2
@[simp] theorem gF_expr_1_c3_eq : aw PP gF_expr_1_c3 K env H = aw PP gF_expr_1_c0 (seqK PP gF_expr_1_c2 K) env H := aw_seq gF_expr_1_c0 gF_expr_1_c2
def gF_expr_1_ac : AC := gF_expr_1_c3
@[simp] theorem gF_expr_1_ac_eq : aw PP gF_expr_1_ac K env H = aw PP gF_expr_1_c3 K env H := Eq.trans rfl rfl
def gF_expr_1_rs : List ARV := [.tmp 3]
abbrev gF_expr_1_id : Nat := 80
theorem gF_expr_1_comp : compF PP gF_expr_1_kl gF_expr_1_ow 2 Tryd.f80 = some (gF_expr_1_ac, gF_expr_1_rs) := by kernel_rfl
theorem gF_expr_1_enter {args : List AV} {H : AHeap} {post : ARes → AHeap → Prop} (ha : args.length = 2) (h : aw PP gF_expr_1_ac (retK gF_expr_1_rs post) (argEnv 0 args) H) : ACalls PP gF_expr_1_id args H post := .enterF Tryd.func80 PP_mix gF_expr_1_comp ha h

/-! emendate.grammarfile.letter -/
def gF_letter_kl : Nat → List Nat
  | 0 => [2]
  | 1 => [0, 3, 4, 5, 6, 7, 8, 9, 10, 11, 12, 13, 14, 15, 16]
  | _ => []
def gF_letter_ow : Nat → Nat → Bool := fun _ _ => false
def gF_letter_c0 : AC := .reg [⟨some 2, none, .mov (.c (.bool false))⟩] [2]
@[simp] theorem gF_letter_c0_eq : aw PP gF_letter_c0 K env H = awOps PP [⟨some 2, none, .mov (.c (.bool false))⟩] (regK K [2]) (panK K) env H := aw_reg _ _
def gF_letter_c1 : AC := .reg [⟨some 3, none, .mov (.t 0)⟩, ⟨some 4, none, .bin (.geq) (.t 3) (.c (.int (.u8) 97))⟩, ⟨some 5, none, .mov (.t 4)⟩, ⟨some 6, some (5, true), .mov (.t 0)⟩, ⟨some 7, some (5, true), .bin (.leq) (.t 6) (.c (.int (.u8) 122))⟩, ⟨some 8, none, .pick (.t 5) (.t 7) (.c (.bool false))⟩, ⟨some 9, none, .mov (.t 8)⟩, ⟨some 10, some (9, false), .mov (.t 0)⟩, ⟨some 11, some (9, false), .bin (.geq) (.t 10) (.c (.int (.u8) 65))⟩, ⟨some 12, some (9, false), .mov (.t 11)⟩, ⟨some 13, some (12, true), .mov (.t 0)⟩, ⟨some 14, some (12, true), .bin (.leq) (.t 13) (.c (.int (.u8) 90))⟩, ⟨some 15, some (9, false), .pick (.t 12) (.t 14) (.c (.bool false))⟩, ⟨some 16, none, .pick (.t 9) (.c (.bool true)) (.t 15)⟩, ⟨some 2, none, .mov (.t 16)⟩] [0, 3, 4, 5, 6, 7, 8, 9, 10, 11, 12, 13, 14, 15, 16]
@[simp] theorem gF_letter_c1_eq : aw PP gF_letter_c1 K env H = awOps PP [⟨some 3, none, .mov (.t 0)⟩, ⟨some 4, none, .bin (.geq) (.t 3) (.c (.int (.u8) 97))⟩, ⟨some 5, none, .mov (.t 4)⟩, ⟨some 6, some (5, true), .mov (.t 0)⟩, ⟨some 7, some (5, true), .bin (.leq) (.t 6) (.c (.int (.u8) 122))⟩, ⟨some 8, none, .pick (.t 5) (.t 7) (.c (.bool false))⟩, ⟨some 9, none, .mov (.t 8)⟩, ⟨some 10, some (9, false), .mov (.t 0)⟩, ⟨some 11, some (9, false), .bin (.geq) (.t 10) (.c (.int (.u8) 65))⟩, ⟨some 12, some (9, false), .mov (.t 11)⟩, ⟨some 13, some (12, true), .mov (.t 0)⟩, ⟨some 14, some (12, true), .bin (.leq) (.t 13) (.c (.int (.u8) 90))⟩, ⟨some 15, some (9, false), .pick (.t 12) (.t 14) (.c (.bool false))⟩, ⟨some 16, none, .pick (.t 9) (.c (.bool true)) (.t 15)⟩, ⟨some 2, none, .mov (.t 16)⟩] (regK K [0, 3, 4, 5, 6, 7, 8, 9, 10, 11, 12, 13, 14, 15, 16]) (panK K) env H := aw_reg _ _
def gF_letter_c2 : AC := .seq gF_letter_c1 .ret
@[simp] theorem gF_letter_c2_eq : aw PP gF_letter_c2 K env H = aw PP gF_letter_c1 (seqK PP .ret K) env H := aw_seq gF_letter_c1 .ret
def gF_letter_c3 : AC := .seq gF_letter_c0 gF_letter_c2
@[simp] theorem gF_letter_c3_eq : aw PP gF_letter_c3 K env H = aw PP gF_letter_c0 (seqK PP gF_letter_c2 K) env H := aw_seq gF_letter_c0 gF_letter_c2
def gF_letter_ac : AC := gF_letter_c3
@[simp] theorem gF_letter_ac_eq : aw PP gF_letter_ac K env H = aw PP gF_letter_c3 K env H := Eq.trans rfl rfl
def gF_letter_rs : List ARV := [.tmp 2]
abbrev gF_letter_id : Nat := 81
theorem gF_letter_comp : compF PP gF_letter_kl gF_letter_ow 1 Tryd.f81 = some (gF_letter_ac, gF_letter_rs) := by kernel_rfl
theorem gF_letter_enter {args : List AV} {H : AHeap} {post : ARes → AHeap → Prop} (ha : args.length = 1) (h : aw PP gF_letter_ac (retK gF_letter_rs post) (argEnv 0 args) H) : ACalls PP gF_letter_id args H post := .enterF Tryd.func81 PP_mix gF_letter_comp ha h

/-! (*emendate.grammarfile.writer).expr -/
def gW_expr_kl : Nat → List Nat
  | 0 => [1]
  | 1 => [6]
  | 3 => [10, 11, 12, 13]
  | 4 => [14]
  | 5 => [4, 5, 16, 17, 18, 19, 20, 21, 41]
  | 6 => [23]
  | 7 => [4, 15, 22, 24]
  | 8 => [25, 26, 27, 28, 29]
  | 9 => [5, 25, 30, 31, 32, 33, 34, 35, 36, 37, 38, 39, 40]
  | 10 => [15, 22, 42]
  | 11 => [4, 41, 43]
  | 12 => [44, 45, 46, 47, 48]
  | 13 => [5, 44, 49, 50, 51, 52, 53, 54, 55, 56, 57, 58, 59, 60, 61, 62, 63, 64, 65]
  | 14 => [66]
  | 15 => [7, 8, 9, 10, 67]
  | 16 => [70]
  | 17 => [0, 3, 68, 69, 71, 72, 73, 74, 75, 76]
  | 18 => [3, 69, 78]
  | 19 => [0, 68, 77, 79, 80, 81, 82]
  | 20 => [77, 84]
  | 21 => [0, 68, 83, 85, 86, 87, 88]
  | 22 => [68, 83, 90]
  | 23 => [0, 89, 91, 92, 93, 94]
  | _ => []
def gW_expr_ow : Nat → Nat → Bool := fun _ _ => false
def gW_expr_c0 : AC := .reg [⟨some 3, none, .box (.t 1) 3 33⟩] [1]
@[simp] theorem gW_expr_c0_eq : aw PP gW_expr_c0 K env H = awOps PP [⟨some 3, none, .box (.t 1) 3 33⟩] (regK K [1]) (panK K) env H := aw_reg _ _
def gW_expr_c1 : AC := .reg [⟨some 6, none, .fa 2 2 (.t 3)⟩, ⟨some 7, none, .ld false 1 (.t 6)⟩, ⟨some 8, none, .lenl (.t 7)⟩, ⟨some 9, none, .mov (.c (.int (.i64) 0))⟩] [6]
@[simp] theorem gW_expr_c1_eq : aw PP gW_expr_c1 K env H = awOps PP [⟨some 6, none, .fa 2 2 (.t 3)⟩, ⟨some 7, none, .ld false 1 (.t 6)⟩, ⟨some 8, none, .lenl (.t 7)⟩, ⟨some 9, none, .mov (.c (.int (.i64) 0))⟩] (regK K [6]) (panK K) env H := aw_reg _ _
def gW_expr_c2 : AC := .reg [⟨some 10, none, .bin (.lss) (.t 9) (.t 8)⟩] []
@[simp] theorem gW_expr_c2_eq : aw PP gW_expr_c2 K env H = awOps PP [⟨some 10, none, .bin (.lss) (.t 9) (.t 8)⟩] (regK K []) (panK K) env H := aw_reg _ _
def gW_expr_c3 : AC := .cond (.t 10) .skip (.exit 0)
@[simp] theorem gW_expr_c3_eq : aw PP gW_expr_c3 K env H = condQ PP (Opd.ev env (.t 10)) .skip (.exit 0) K env H := aw_cond _ .skip (.exit 0)
def gW_expr_c4 : AC := .reg [⟨some 11, none, .mov (.t 9)⟩, ⟨some 12, none, .ixa 3 (.t 7) (.t 9)⟩, ⟨some 13, none, .ld true 3 (.t 12)⟩, ⟨some 5, none, .alloc (.struct [.int (.i64) 0, .str [], .nils]) 33⟩, ⟨some 4, none, .mov (.t 11)⟩, ⟨none, none, .st 3 (.t 5) (.t 13)⟩] [10, 11, 12, 13]
@[simp] theorem gW_expr_c4_eq : aw PP gW_expr_c4 K env H = awOps PP [⟨some 11, none, .mov (.t 9)⟩, ⟨some 12, none, .ixa 3 (.t 7) (.t 9)⟩, ⟨some 13, none, .ld true 3 (.t 12)⟩, ⟨some 5, none, .alloc (.struct [.int (.i64) 0, .str [], .nils]) 33⟩, ⟨some 4, none, .mov (.t 11)⟩, ⟨none, none, .st 3 (.t 5) (.t 13)⟩] (regK K [10, 11, 12, 13]) (panK K) env H := aw_reg _ _
def gW_expr_c5 : AC := .reg [⟨some 14, none, .fa 0 0 (.t 3)⟩, ⟨some 15, none, .ld false 1 (.t 14)⟩] [14]
@[simp] theorem gW_expr_c5_eq : aw PP gW_expr_c5 K env H = awOps PP [⟨some 14, none, .fa 0 0 (.t 3)⟩, ⟨some 15, none, .ld false 1 (.t 14)⟩] (regK K [14]) (panK K) env H := aw_reg _ _
def gW_expr_c6 : AC := .reg [⟨some 23, none, .bin (.eql) (.t 15) (.c (.int (.i64) 2))⟩, ⟨some 22, none, .mov (.t 23)⟩] [23]
@[simp] theorem gW_expr_c6_eq : aw PP gW_expr_c6 K env H = awOps PP [⟨some 23, none, .bin (.eql) (.t 15) (.c (.int (.i64) 2))⟩, ⟨some 22, none, .mov (.t 23)⟩] (regK K [23]) (panK K) env H := aw_reg _ _
def gW_expr_c7 : AC := .reg [⟨some 24, none, .mov (.t 4)⟩, ⟨some 25, none, .bin (.gtr) (.t 24) (.c (.int (.i64) 0))⟩] [4, 15, 22, 24]
@[simp] theorem gW_expr_c7_eq : aw PP gW_expr_c7 K env H = awOps PP [⟨some 24, none, .mov (.t 4)⟩, ⟨some 25, none, .bin (.gtr) (.t 24) (.c (.int (.i64) 0))⟩] (regK K [4, 15, 22, 24]) (panK K) env H := aw_reg _ _
def gW_expr_c8 : AC := .reg [⟨some 26, none, .mov (.t 0)⟩, ⟨some 27, none, .nilc (.t 26)⟩, ⟨some 28, none, .fa 0 0 (.t 27)⟩, ⟨some 29, none, .call (.c (.fn (.func 61) [] [])) [.t 28, .c (.int (.u8) 32)]⟩] [25, 26, 27, 28, 29]
@[simp] theorem gW_expr_c8_eq : aw PP gW_expr_c8 K env H = awOps PP [⟨some 26, none, .mov (.t 0)⟩, ⟨some 27, none, .nilc (.t 26)⟩, ⟨some 28, none, .fa 0 0 (.t 27)⟩, ⟨some 29, none, .call (.c (.fn (.func 61) [] [])) [.t 28, .c (.int (.u8) 32)]⟩] (regK K [25, 26, 27, 28, 29]) (panK K) env H := aw_reg _ _
def gW_expr_c9 : AC := .cond (.t 25) gW_expr_c8 .skip
@[simp] theorem gW_expr_c9_eq : aw PP gW_expr_c9 K env H = condQ PP (Opd.ev env (.t 25)) gW_expr_c8 .skip K env H := aw_cond _ gW_expr_c8 .skip
def gW_expr_c10 : AC := .seq gW_expr_c7 gW_expr_c9
@[simp] theorem gW_expr_c10_eq : aw PP gW_expr_c10 K env H = aw PP gW_expr_c7 (seqK PP gW_expr_c9 K) env H := aw_seq gW_expr_c7 gW_expr_c9
def gW_expr_c11 : AC := .reg [⟨some 30, none, .mov (.t 0)⟩, ⟨some 31, none, .ld true 3 (.t 5)⟩, ⟨some 32, none, .fa 0 0 (.t 5)⟩, ⟨some 33, none, .ld false 1 (.t 32)⟩, ⟨some 34, none, .bin (.eql) (.t 33) (.c (.int (.i64) 2))⟩, ⟨some 35, none, .mov (.t 34)⟩, ⟨some 36, some (35, false), .fa 0 0 (.t 5)⟩, ⟨some 37, some (35, false), .ld false 1 (.t 36)⟩, ⟨some 38, some (35, false), .bin (.eql) (.t 37) (.c (.int (.i64) 3))⟩, ⟨some 39, none, .pick (.t 35) (.c (.bool true)) (.t 38)⟩, ⟨some 40, none, .call (.c (.fn (.func 62) [] [])) [.t 30, .t 31, .t 39]⟩] [5, 25, 30, 31, 32, 33, 34, 35, 36, 37, 38, 39, 40]
@[simp] theorem gW_expr_c11_eq : aw PP gW_expr_c11 K env H = awOps PP [⟨some 30, none, .mov (.t 0)⟩, ⟨some 31, none, .ld true 3 (.t 5)⟩, ⟨some 32, none, .fa 0 0 (.t 5)⟩, ⟨some 33, none, .ld false 1 (.t 32)⟩, ⟨some 34, none, .bin (.eql) (.t 33) (.c (.int (.i64) 2))⟩, ⟨some 35, none, .mov (.t 34)⟩, ⟨some 36, some (35, false), .fa 0 0 (.t 5)⟩, ⟨some 37, some (35, false), .ld false 1 (.t 36)⟩, ⟨some 38, some (35, false), .bin (.eql) (.t 37) (.c (.int (.i64) 3))⟩, ⟨some 39, none, .pick (.t 35) (.c (.bool true)) (.t 38)⟩, ⟨some 40, none, .call (.c (.fn (.func 62) [] [])) [.t 30, .t 31, .t 39]⟩] (regK K [5, 25, 30, 31, 32, 33, 34, 35, 36, 37, 38, 39, 40]) (panK K) env H := aw_reg _ _
def gW_expr_c12 : AC := .seq gW_expr_c10 gW_expr_c11
@[simp] theorem gW_expr_c12_eq : aw PP gW_expr_c12 K env H = aw PP gW_expr_c10 (seqK PP gW_expr_c11 K) env H := aw_seq gW_expr_c10 gW_expr_c11
def gW_expr_c13 : AC := .reg [⟨some 42, none, .bin (.eql) (.t 15) (.c (.int (.i64) 3))⟩, ⟨some 41, none, .mov (.t 42)⟩] [15, 22, 42]
@[simp] theorem gW_expr_c13_eq : aw PP gW_expr_c13 K env H = awOps PP [⟨some 42, none, .bin (.eql) (.t 15) (.c (.int (.i64) 3))⟩, ⟨some 41, none, .mov (.t 42)⟩] (regK K [15, 22, 42]) (panK K) env H := aw_reg _ _
def gW_expr_c14 : AC := .reg [⟨some 43, none, .mov (.t 4)⟩, ⟨some 44, none, .bin (.gtr) (.t 43) (.c (.int (.i64) 0))⟩] [4, 41, 43]
@[simp] theorem gW_expr_c14_eq : aw PP gW_expr_c14 K env H = awOps PP [⟨some 43, none, .mov (.t 4)⟩, ⟨some 44, none, .bin (.gtr) (.t 43) (.c (.int (.i64) 0))⟩] (regK K [4, 41, 43]) (panK K) env H := aw_reg _ _
def gW_expr_c15 : AC := .reg [⟨some 45, none, .mov (.t 0)⟩, ⟨some 46, none, .nilc (.t 45)⟩, ⟨some 47, none, .fa 0 0 (.t 46)⟩, ⟨some 48, none, .call (.c (.fn (.func 40) [] [])) [.t 47, .c (.str [32, 124, 32])]⟩] [44, 45, 46, 47, 48]
@[simp] theorem gW_expr_c15_eq : aw PP gW_expr_c15 K env H = awOps PP [⟨some 45, none, .mov (.t 0)⟩, ⟨some 46, none, .nilc (.t 45)⟩, ⟨some 47, none, .fa 0 0 (.t 46)⟩, ⟨some 48, none, .call (.c (.fn (.func 40) [] [])) [.t 47, .c (.str [32, 124, 32])]⟩] (regK K [44, 45, 46, 47, 48]) (panK K) env H := aw_reg _ _
def gW_expr_c16 : AC := .cond (.t 44) gW_expr_c15 .skip
@[simp] theorem gW_expr_c16_eq : aw PP gW_expr_c16 K env H = condQ PP (Opd.ev env (.t 44)) gW_expr_c15 .skip K env H := aw_cond _ gW_expr_c15 .skip
def gW_expr_c17 : AC := .seq gW_expr_c14 gW_expr_c16
@[simp] theorem gW_expr_c17_eq : aw PP gW_expr_c17 K env H = aw PP gW_expr_c14 (seqK PP gW_expr_c16 K) env H := aw_seq gW_expr_c14 gW_expr_c16
def gW_expr_c18 : AC := .reg [⟨some 49, none, .mov (.t 0)⟩, ⟨some 50, none, .ld true 3 (.t 5)⟩, ⟨some 51, none, .fa 0 0 (.t 5)⟩, ⟨some 52, none, .ld false 1 (.t 51)⟩, ⟨some 53, none, .bin (.eql) (.t 52) (.c (.int (.i64) 3))⟩, ⟨some 54, none, .mov (.t 53)⟩, ⟨some 55, some (54, false), .fa 0 0 (.t 5)⟩, ⟨some 56, some (54, false), .ld false 1 (.t 55)⟩, ⟨some 57, some (54, false), .bin (.eql) (.t 56) (.c (.int (.i64) 2))⟩, ⟨some 58, some (54, false), .mov (.t 57)⟩, ⟨some 59, some (58, true), .fa 2 2 (.t 5)⟩, ⟨some 60, some (58, true), .ld false 1 (.t 59)⟩, ⟨some 61, some (58, true), .lenl (.t 60)⟩, ⟨some 62, some (58, true), .bin (.eql) (.t 61) (.c (.int (.i64) 0))⟩, ⟨some 63, some (54, false), .pick (.t 58) (.t 62) (.c (.bool false))⟩, ⟨some 64, none, .pick (.t 54) (.c (.bool true)) (.t 63)⟩, ⟨some 65, none, .call (.c (.fn (.func 62) [] [])) [.t 49, .t 50, .t 64]⟩] [5, 44, 49, 50, 51, 52, 53, 54, 55, 56, 57, 58, 59, 60, 61, 62, 63, 64, 65]
@[simp] theorem gW_expr_c18_eq : aw PP gW_expr_c18 K env H = awOps PP [⟨some 49, none, .mov (.t 0)⟩, ⟨some 50, none, .ld true 3 (.t 5)⟩, ⟨some 51, none, .fa 0 0 (.t 5)⟩, ⟨some 52, none, .ld false 1 (.t 51)⟩, ⟨some 53, none, .bin (.eql) (.t 52) (.c (.int (.i64) 3))⟩, ⟨some 54, none, .mov (.t 53)⟩, ⟨some 55, some (54, false), .fa 0 0 (.t 5)⟩, ⟨some 56, some (54, false), .ld false 1 (.t 55)⟩, ⟨some 57, some (54, false), .bin (.eql) (.t 56) (.c (.int (.i64) 2))⟩, ⟨some 58, some (54, false), .mov (.t 57)⟩, ⟨some 59, some (58, true), .fa 2 2 (.t 5)⟩, ⟨some 60, some (58, true), .ld false 1 (.t 59)⟩, ⟨some 61, some (58, true), .lenl (.t 60)⟩, ⟨some 62, some (58, true), .bin (.eql) (.t 61) (.c (.int (.i64) 0))⟩, ⟨some 63, some (54, false), .pick (.t 58) (.t 62) (.c (.bool false))⟩, ⟨some 64, none, .pick (.t 54) (.c (.bool true)) (.t 63)⟩, ⟨some 65, none, .call (.c (.fn (.func 62) [] [])) [.t 49, .t 50, .t 64]⟩] (regK K [5, 44, 49, 50, 51, 52, 53, 54, 55, 56, 57, 58, 59, 60, 61, 62, 63, 64, 65]) (panK K) env H := aw_reg _ _
def gW_expr_c19 : AC := .seq gW_expr_c17 gW_expr_c18
@[simp] theorem gW_expr_c19_eq : aw PP gW_expr_c19 K env H = aw PP gW_expr_c17 (seqK PP gW_expr_c18 K) env H := aw_seq gW_expr_c17 gW_expr_c18
def gW_expr_c20 : AC := .reg [⟨some 16, none, .mov (.t 0)⟩, ⟨some 17, none, .ld true 3 (.t 5)⟩, ⟨some 18, none, .fa 0 0 (.t 5)⟩, ⟨some 19, none, .ld false 1 (.t 18)⟩, ⟨some 20, none, .bin (.neq) (.t 19) (.c (.int (.i64) 1))⟩, ⟨some 21, none, .call (.c (.fn (.func 62) [] [])) [.t 16, .t 17, .t 20]⟩] [4, 5, 16, 17, 18, 19, 20, 21, 41]
@[simp] theorem gW_expr_c20_eq : aw PP gW_expr_c20 K env H = awOps PP [⟨some 16, none, .mov (.t 0)⟩, ⟨some 17, none, .ld true 3 (.t 5)⟩, ⟨some 18, none, .fa 0 0 (.t 5)⟩, ⟨some 19, none, .ld false 1 (.t 18)⟩, ⟨some 20, none, .bin (.neq) (.t 19) (.c (.int (.i64) 1))⟩, ⟨some 21, none, .call (.c (.fn (.func 62) [] [])) [.t 16, .t 17, .t 20]⟩] (regK K [4, 5, 16, 17, 18, 19, 20, 21, 41]) (panK K) env H := aw_reg _ _
def gW_expr_c21 : AC := .cond (.t 41) gW_expr_c19 gW_expr_c20
@[simp] theorem gW_expr_c21_eq : aw PP gW_expr_c21 K env H = condQ PP (Opd.ev env (.t 41)) gW_expr_c19 gW_expr_c20 K env H := aw_cond _ gW_expr_c19 gW_expr_c20
def gW_expr_c22 : AC := .seq gW_expr_c13 gW_expr_c21
@[simp] theorem gW_expr_c22_eq : aw PP gW_expr_c22 K env H = aw PP gW_expr_c13 (seqK PP gW_expr_c21 K) env H := aw_seq gW_expr_c13 gW_expr_c21
def gW_expr_c23 : AC := .cond (.t 22) gW_expr_c12 gW_expr_c22
@[simp] theorem gW_expr_c23_eq : aw PP gW_expr_c23 K env H = condQ PP (Opd.ev env (.t 22)) gW_expr_c12 gW_expr_c22 K env H := aw_cond _ gW_expr_c12 gW_expr_c22
def gW_expr_c24 : AC := .seq gW_expr_c6 gW_expr_c23
@[simp] theorem gW_expr_c24_eq : aw PP gW_expr_c24 K env H = aw PP gW_expr_c6 (seqK PP gW_expr_c23 K) env H := aw_seq gW_expr_c6 gW_expr_c23
def gW_expr_c25 : AC := .block 2 gW_expr_c24
@[simp] theorem gW_expr_c25_eq : aw PP gW_expr_c25 K env H = aw PP gW_expr_c24 (blockK 2 K) env H := aw_block _ gW_expr_c24
def gW_expr_c26 : AC := .seq gW_expr_c5 gW_expr_c25
@[simp] theorem gW_expr_c26_eq : aw PP gW_expr_c26 K env H = aw PP gW_expr_c5 (seqK PP gW_expr_c25 K) env H := aw_seq gW_expr_c5 gW_expr_c25
def gW_expr_c27 : AC := .seq gW_expr_c4 gW_expr_c26
@[simp] theorem gW_expr_c27_eq : aw PP gW_expr_c27 K env H = aw PP gW_expr_c4 (seqK PP gW_expr_c26 K) env H := aw_seq gW_expr_c4 gW_expr_c26
def gW_expr_c28 : AC := .block 1 gW_expr_c27
@[simp] theorem gW_expr_c28_eq : aw PP gW_expr_c28 K env H = aw PP gW_expr_c27 (blockK 1 K) env H := aw_block _ gW_expr_c27
def gW_expr_c29 : AC := .reg [⟨some 66, none, .bin (.add) (.t 9) (.c (.int (.i64) 1))⟩, ⟨some 9, none, .mov (.t 66)⟩] [66]
@[simp] theorem gW_expr_c29_eq : aw PP gW_expr_c29 K env H = awOps PP [⟨some 66, none, .bin (.add) (.t 9) (.c (.int (.i64) 1))⟩, ⟨some 9, none, .mov (.t 66)⟩] (regK K [66]) (panK K) env H := aw_reg _ _
def gW_expr_c30 : AC := .seq gW_expr_c28 gW_expr_c29
@[simp] theorem gW_expr_c30_eq : aw PP gW_expr_c30 K env H = aw PP gW_expr_c28 (seqK PP gW_expr_c29 K) env H := aw_seq gW_expr_c28 gW_expr_c29
def gW_expr_c31 : AC := .seq gW_expr_c3 gW_expr_c30
@[simp] theorem gW_expr_c31_eq : aw PP gW_expr_c31 K env H = aw PP gW_expr_c3 (seqK PP gW_expr_c30 K) env H := aw_seq gW_expr_c3 gW_expr_c30
def gW_expr_c32 : AC := .seq gW_expr_c2 gW_expr_c31
@[simp] theorem gW_expr_c32_eq : aw PP gW_expr_c32 K env H = aw PP gW_expr_c2 (seqK PP gW_expr_c31 K) env H := aw_seq gW_expr_c2 gW_expr_c31
def gW_expr_c33 : AC := .loop gW_expr_c32
def gW_expr_c34 : AC := .block 0 gW_expr_c33
@[simp] theorem gW_expr_c34_eq : aw PP gW_expr_c34 K env H = aw PP gW_expr_c33 (blockK 0 K) env H := aw_block _ gW_expr_c33
def gW_expr_c35 : AC := .seq gW_expr_c1 gW_expr_c34
@[simp] theorem gW_expr_c35_eq : aw PP gW_expr_c35 K env H = aw PP gW_expr_c1 (seqK PP gW_expr_c34 K) env H := aw_seq gW_expr_c1 gW_expr_c34
def gW_expr_c36 : AC := .reg [⟨some 67, none, .fa 0 0 (.t 3)⟩, ⟨some 68, none, .ld false 1 (.t 67)⟩] [7, 8, 9, 10, 67]
@[simp] theorem gW_expr_c36_eq : aw PP gW_expr_c36 K env H = awOps PP [⟨some 67, none, .fa 0 0 (.t 3)⟩, ⟨some 68, none, .ld false 1 (.t 67)⟩] (regK K [7, 8, 9, 10, 67]) (panK K) env H := aw_reg _ _
def gW_expr_c37 : AC := .reg [⟨some 70, none, .bin (.eql) (.t 68) (.c (.int (.i64) 1))⟩, ⟨some 69, none, .mov (.t 70)⟩] [70]
@[simp] theorem gW_expr_c37_eq : aw PP gW_expr_c37 K env H = awOps PP [⟨some 70, none, .bin (.eql) (.t 68) (.c (.int (.i64) 1))⟩, ⟨some 69, none, .mov (.t 70)⟩] (regK K [70]) (panK K) env H := aw_reg _ _
def gW_expr_c38_ops : List (AI × List Nat) := [(⟨some 71, none, .mov (.t 0)⟩, []), (⟨some 72, none, .nilc (.t 71)⟩, [0]), (⟨some 73, none, .fa 0 0 (.t 72)⟩, [1]), (⟨some 74, none, .fa 1 1 (.t 3)⟩, []), (⟨some 75, none, .ld false 1 (.t 74)⟩, [3]), (⟨some 76, none, .call (.c (.fn (.func 40) [] [])) [.t 73, .t 75]⟩, [2, 4])]
def gW_expr_c38 : AC := .dreg gW_expr_c38_ops [0, 3, 68, 69, 71, 72, 73, 74, 75, 76]
theorem gW_expr_c38_ok : lexOK gW_expr_c38_ops (fun i => [].contains i) = true := by kernel_rfl
theorem gW_expr_c38_lex (h : awLex PP (fun i => [].contains i) (regK K [0, 3, 68, 69, 71, 72, 73, 74, 75, 76]) (panK K) [(0, ⟨some 71, none, .mov (.t 0)⟩), (1, ⟨some 72, none, .nilc (.t 71)⟩), (2, ⟨some 73, none, .fa 0 0 (.t 72)⟩), (3, ⟨some 74, none, .fa 1 1 (.t 3)⟩), (4, ⟨some 75, none, .ld false 1 (.t 74)⟩), (5, ⟨some 76, none, .call (.c (.fn (.func 40) [] [])) [.t 73, .t 75]⟩)] env H) : aw PP gW_expr_c38 K env H := aw_dreg_lex _ gW_expr_c38_ok h
theorem gW_expr_c38_okF : lexOKF gW_expr_c38_ops 5 (fun i => [5].contains i) = true := by kernel_rfl
theorem gW_expr_c38_lexF (B : List Nat) (h : awLexF PP 5 (fun i => [5].contains i) B H (regK K [0, 3, 68, 69, 71, 72, 73, 74, 75, 76]) (panK K) [(0, ⟨some 71, none, .mov (.t 0)⟩), (1, ⟨some 72, none, .nilc (.t 71)⟩), (2, ⟨some 73, none, .fa 0 0 (.t 72)⟩), (3, ⟨some 74, none, .fa 1 1 (.t 3)⟩), (4, ⟨some 75, none, .ld false 1 (.t 74)⟩), (5, ⟨some 76, none, .call (.c (.fn (.func 40) [] [])) [.t 73, .t 75]⟩)] env H) : aw PP gW_expr_c38 K env H := aw_dreg_lexF _ _ B gW_expr_c38_okF h
def gW_expr_c39 : AC := .reg [⟨some 78, none, .bin (.eql) (.t 68) (.c (.int (.i64) 4))⟩, ⟨some 77, none, .mov (.t 78)⟩] [3, 69, 78]
@[simp] theorem gW_expr_c39_eq : aw PP gW_expr_c39 K env H = awOps PP [⟨some 78, none, .bin (.eql) (.t 68) (.c (.int (.i64) 4))⟩, ⟨some 77, none, .mov (.t 78)⟩] (regK K [3, 69, 78]) (panK K) env H := aw_reg _ _
def gW_expr_c40 : AC := .reg [⟨some 79, none, .mov (.t 0)⟩, ⟨some 80, none, .nilc (.t 79)⟩, ⟨some 81, none, .fa 0 0 (.t 80)⟩, ⟨some 82, none, .call (.c (.fn (.func 61) [] [])) [.t 81, .c (.int (.u8) 63)]⟩] [0, 68, 77, 79, 80, 81, 82]
@[simp] theorem gW_expr_c40_eq : aw PP gW_expr_c40 K env H = awOps PP [⟨some 79, none, .mov (.t 0)⟩, ⟨some 80, none, .nilc (.t 79)⟩, ⟨some 81, none, .fa 0 0 (.t 80)⟩, ⟨some 82, none, .call (.c (.fn (.func 61) [] [])) [.t 81, .c (.int (.u8) 63)]⟩] (regK K [0, 68, 77, 79, 80, 81, 82]) (panK K) env H := aw_reg _ _
def gW_expr_c41 : AC := .reg [⟨some 84, none, .bin (.eql) (.t 68) (.c (.int (.i64) 5))⟩, ⟨some 83, none, .mov (.t 84)⟩] [77, 84]
@[simp] theorem gW_expr_c41_eq : aw PP gW_expr_c41 K env H = awOps PP [⟨some 84, none, .bin (.eql) (.t 68) (.c (.int (.i64) 5))⟩, ⟨some 83, none, .mov (.t 84)⟩] (regK K [77, 84]) (panK K) env H := aw_reg _ _
def gW_expr_c42 : AC := .reg [⟨some 85, none, .mov (.t 0)⟩, ⟨some 86, none, .nilc (.t 85)⟩, ⟨some 87, none, .fa 0 0 (.t 86)⟩, ⟨some 88, none, .call (.c (.fn (.func 61) [] [])) [.t 87, .c (.int (.u8) 42)]⟩] [0, 68, 83, 85, 86, 87, 88]
@[simp] theorem gW_expr_c42_eq : aw PP gW_expr_c42 K env H = awOps PP [⟨some 85, none, .mov (.t 0)⟩, ⟨some 86, none, .nilc (.t 85)⟩, ⟨some 87, none, .fa 0 0 (.t 86)⟩, ⟨some 88, none, .call (.c (.fn (.func 61) [] [])) [.t 87, .c (.int (.u8) 42)]⟩] (regK K [0, 68, 83, 85, 86, 87, 88]) (panK K) env H := aw_reg _ _
def gW_expr_c43 : AC := .reg [⟨some 90, none, .bin (.eql) (.t 68) (.c (.int (.i64) 6))⟩, ⟨some 89, none, .mov (.t 90)⟩] [68, 83, 90]
@[simp] theorem gW_expr_c43_eq : aw PP gW_expr_c43 K env H = awOps PP [⟨some 90, none, .bin (.eql) (.t 68) (.c (.int (.i64) 6))⟩, ⟨some 89, none, .mov (.t 90)⟩] (regK K [68, 83, 90]) (panK K) env H := aw_reg _ _
def gW_expr_c44 : AC := .reg [⟨some 91, none, .mov (.t 0)⟩, ⟨some 92, none, .nilc (.t 91)⟩, ⟨some 93, none, .fa 0 0 (.t 92)⟩, ⟨some 94, none, .call (.c (.fn (.func 61) [] [])) [.t 93, .c (.int (.u8) 43)]⟩] [0, 89, 91, 92, 93, 94]
@[simp] theorem gW_expr_c44_eq : aw PP gW_expr_c44 K env H = awOps PP [⟨some 91, none, .mov (.t 0)⟩, ⟨some 92, none, .nilc (.t 91)⟩, ⟨some 93, none, .fa 0 0 (.t 92)⟩, ⟨some 94, none, .call (.c (.fn (.func 61) [] [])) [.t 93, .c (.int (.u8) 43)]⟩] (regK K [0, 89, 91, 92, 93, 94]) (panK K) env H := aw_reg _ _
def gW_expr_c45 : AC := .cond (.t 89) gW_expr_c44 .skip
@[simp] theorem gW_expr_c45_eq : aw PP gW_expr_c45 K env H = condQ PP (Opd.ev env (.t 89)) gW_expr_c44 .skip K env H := aw_cond _ gW_expr_c44 .skip
def gW_expr_c46 : AC := .seq gW_expr_c43 gW_expr_c45
@[simp] theorem gW_expr_c46_eq : aw PP gW_expr_c46 K env H = aw PP gW_expr_c43 (seqK PP gW_expr_c45 K) env H := aw_seq gW_expr_c43 gW_expr_c45
def gW_expr_c47 : AC := .cond (.t 83) gW_expr_c42 gW_expr_c46
@[simp] theorem gW_expr_c47_eq : aw PP gW_expr_c47 K env H = condQ PP (Opd.ev env (.t 83)) gW_expr_c42 gW_expr_c46 K env H := aw_cond _ gW_expr_c42 gW_expr_c46
def gW_expr_c48 : AC := .seq gW_expr_c41 gW_expr_c47
@[simp] theorem gW_expr_c48_eq : aw PP gW_expr_c48 K env H = aw PP gW_expr_c41 (seqK PP gW_expr_c47 K) env H := aw_seq gW_expr_c41 gW_expr_c47
def gW_expr_c49 : AC := .cond (.t 77) gW_expr_c40 gW_expr_c48
@[simp] theorem gW_expr_c49_eq : aw PP gW_expr_c49 K env H = condQ PP (Opd.ev env (.t 77)) gW_expr_c40 gW_expr_c48 K env H := aw_cond _ gW_expr_c40 gW_expr_c48
def gW_expr_c50 : AC := .seq gW_expr_c39 gW_expr_c49
@[simp] theorem gW_expr_c50_eq : aw PP gW_expr_c50 K env H = aw PP gW_expr_c39 (seqK PP gW_expr_c49 K) env H := aw_seq gW_expr_c39 gW_expr_c49
def gW_expr_c51 : AC := .cond (.t 69) gW_expr_c38 gW_expr_c50
@[simp] theorem gW_expr_c51_eq : aw PP gW_expr_c51 K env H = condQ PP (Opd.ev env (.t 69)) gW_expr_c38 gW_expr_c50 K env H := aw_cond _ gW_expr_c38 gW_expr_c50
def gW_expr_c52 : AC := .seq gW_expr_c37 gW_expr_c51
@[simp] theorem gW_expr_c52_eq : aw PP gW_expr_c52 K env H = aw PP gW_expr_c37 (seqK PP gW_expr_c51 K) env H := aw_seq gW_expr_c37 gW_expr_c51
def gW_expr_c53 : AC := .block 3 gW_expr_c52
@[simp] theorem gW_expr_c53_eq : aw PP gW_expr_c53 K env H = aw PP gW_expr_c52 (blockK 3 K) env H := aw_block _ gW_expr_c52
def gW_expr_c54 : AC := .seq gW_expr_c36 gW_expr_c53
@[simp] theorem gW_expr_c54_eq : aw PP gW_expr_c54 K env H = aw PP gW_expr_c36 (seqK PP gW_expr_c53 K) env H := aw_seq gW_expr_c36 gW_expr_c53
def gW_expr_c55 : AC := .seq gW_expr_c35 gW_expr_c54
@[simp] theorem gW_expr_c55_eq : aw PP gW_expr_c55 K env H = aw PP gW_expr_c35 (seqK PP gW_expr_c54 K) env H := aw_seq gW_expr_c35 gW_expr_c54
def gW_expr_c56 : AC := .seq gW_expr_c0 gW_expr_c55
@[simp] theorem gW_expr_c56_eq : aw PP gW_expr_c56 K env H = aw PP gW_expr_c0 (seqK PP gW_expr_c55 K) env H := aw_seq gW_expr_c0 gW_expr_c55
def gW_expr_ac : AC := gW_expr_c56
@[simp] theorem gW_expr_ac_eq : aw PP gW_expr_ac K env H = aw PP gW_expr_c56 K env H := Eq.trans rfl rfl
def gW_expr_rs : List ARV := []
abbrev gW_expr_id : Nat := 84
theorem gW_expr_comp : compF PP gW_expr_kl gW_expr_ow 2 Tryd.f84 = some (gW_expr_ac, gW_expr_rs) := by kernel_rfl
theorem gW_expr_enter {args : List AV} {H : AHeap} {post : ARes → AHeap → Prop} (ha : args.length = 2) (h : aw PP gW_expr_ac (retK gW_expr_rs post) (argEnv 0 args) H) : ACalls PP gW_expr_id args H post := .enterF Tryd.func84 PP_mix gW_expr_comp ha h

/-! (*emendate.grammarparser.reader).isName -/
def gR_isName_kl : Nat → List Nat
  | 0 => [2]
  | 1 => [0, 4, 5]
  | 2 => [3, 6, 7, 8, 9, 10, 11, 12, 13]
  | _ => []
def gR_isName_ow : Nat → Nat → Bool := fun _ _ => false
def gR_isName_c0 : AC := .reg [⟨some 2, none, .mov (.c (.bool false))⟩] [2]
@[simp] theorem gR_isName_c0_eq : aw PP gR_isName_c0 K env H = awOps PP [⟨some 2, none, .mov (.c (.bool false))⟩] (regK K [2]) (panK K) env H := aw_reg _ _
def gR_isName_c1 : AC := .reg [⟨some 4, none, .mov (.t 0)⟩, ⟨some 5, none, .call (.c (.fn (.func 72) [] [])) [.t 4]⟩, ⟨some 3, none, .alloc (.struct [.int (.i64) 0, .str [], .bool false, .int (.i64) 0]) 100⟩, ⟨none, none, .st 4 (.t 3) (.t 5)⟩] [0, 4, 5]
@[simp] theorem gR_isName_c1_eq : aw PP gR_isName_c1 K env H = awOps PP [⟨some 4, none, .mov (.t 0)⟩, ⟨some 5, none, .call (.c (.fn (.func 72) [] [])) [.t 4]⟩, ⟨some 3, none, .alloc (.struct [.int (.i64) 0, .str [], .bool false, .int (.i64) 0]) 100⟩, ⟨none, none, .st 4 (.t 3) (.t 5)⟩] (regK K [0, 4, 5]) (panK K) env H := aw_reg _ _
def gR_isName_c2 : AC := .reg [⟨some 6, none, .fa 2 2 (.t 3)⟩, ⟨some 7, none, .ld false 1 (.t 6)⟩, ⟨some 8, none, .mov (.t 7)⟩, ⟨some 9, some (8, true), .fa 1 1 (.t 3)⟩, ⟨some 10, some (8, true), .ld false 1 (.t 9)⟩, ⟨some 11, some (8, true), .call (.c (.fn (.func 75) [] [])) [.t 10]⟩, ⟨some 12, some (8, true), .not (.t 11)⟩, ⟨some 13, none, .pick (.t 8) (.t 12) (.c (.bool false))⟩, ⟨some 2, none, .mov (.t 13)⟩] [3, 6, 7, 8, 9, 10, 11, 12, 13]
@[simp] theorem gR_isName_c2_eq : aw PP gR_isName_c2 K env H = awOps PP [⟨some 6, none, .fa 2 2 (.t 3)⟩, ⟨some 7, none, .ld false 1 (.t 6)⟩, ⟨some 8, none, .mov (.t 7)⟩, ⟨some 9, some (8, true), .fa 1 1 (.t 3)⟩, ⟨some 10, some (8, true), .ld false 1 (.t 9)⟩, ⟨some 11, some (8, true), .call (.c (.fn (.func 75) [] [])) [.t 10]⟩, ⟨some 12, some (8, true), .not (.t 11)⟩, ⟨some 13, none, .pick (.t 8) (.t 12) (.c (.bool false))⟩, ⟨some 2, none, .mov (.t 13)⟩] (regK K [3, 6, 7, 8, 9, 10, 11, 12, 13]) (panK K) env H := aw_reg _ _
def gR_isName_c3 : AC := .seq gR_isName_c2 .ret
@[simp] theorem gR_isName_c3_eq : aw PP gR_isName_c3 K env H = aw PP gR_isName_c2 (seqK PP .ret K) env H := aw_seq gR_isName_c2 .ret
def gR_isName_c4 : AC := .seq gR_isName_c1 gR_isName_c3
@[simp] theorem gR_isName_c4_eq : aw PP gR_isName_c4 K env H = aw PP gR_isName_c1 (seqK PP gR_isName_c3 K) env H := aw_seq gR_isName_c1 gR_isName_c3
def gR_isName_c5 : AC := .seq gR_isName_c0 gR_isName_c4
@[simp] theorem gR_isName_c5_eq : aw PP gR_isName_c5 K env H = aw PP gR_isName_c0 (seqK PP gR_isName_c4 K) env H := aw_seq gR_isName_c0 gR_isName_c4
def gR_isName_ac : AC := gR_isName_c5
@[simp] theorem gR_isName_ac_eq : aw PP gR_isName_ac K env H = aw PP gR_isName_c5 K env H := Eq.trans rfl rfl
def gR_isName_rs : List ARV := [.tmp 2]
abbrev gR_isName_id : Nat := 87
theorem gR_isName_comp : compF PP gR_isName_kl gR_isName_ow 1 Tryd.f87 = some (gR_isName_ac, gR_isName_rs) := by kernel_rfl
theorem gR_isName_enter {args : List AV} {H : AHeap} {post : ARes → AHeap → Prop} (ha : args.length = 1) (h : aw PP gR_isName_ac (retK gR_isName_rs post) (argEnv 0 args) H) : ACalls PP gR_isName_id args H post := .enterF Tryd.func87 PP_mix gR_isName_comp ha h

/-! (*emendate.grammarparser.reader).sequence -/
def gR_sequence_kl : Nat → List Nat
  | 2 => [4, 5, 6, 7, 8, 9, 10]
  | 3 => [11, 12, 13, 14, 15, 16]
  | 4 => [0, 11, 17, 18]
  | 5 => [3, 19, 20, 21, 22]
  | 6 => [3, 19, 23, 24]
  | _ => []
def gR_sequence_ow : Nat → Nat → Bool := fun _ _ => false
def gR_sequence_c0 : AC := .reg [⟨some 2, none, .alloc (.struct [.int (.i64) 0, .str [], .nils]) 33⟩] []
@[simp] theorem gR_sequence_c0_eq : aw PP gR_sequence_c0 K env H = awOps PP [⟨some 2, none, .alloc (.struct [.int (.i64) 0, .str [], .nils]) 33⟩] (regK K []) (panK K) env H := aw_reg _ _
def gR_sequence_c1 : AC := .reg [⟨some 3, none, .mov (.c (.nils))⟩] []
@[simp] theorem gR_sequence_c1_eq : aw PP gR_sequence_c1 K env H = awOps PP [⟨some 3, none, .mov (.c (.nils))⟩] (regK K []) (panK K) env H := aw_reg _ _
def gR_sequence_c2 : AC := .reg [⟨some 4, none, .mov (.t 0)⟩, ⟨some 5, none, .call (.c (.fn (.func 87) [] [])) [.t 4]⟩, ⟨some 6, none, .mov (.t 5)⟩, ⟨some 7, some (6, false), .mov (.t 0)⟩, ⟨some 8, some (6, false), .call (.c (.fn (.func 72) [] [])) [.t 7]⟩, ⟨some 9, some (6, false), .fld 1 1 1 false (.t 8)⟩, ⟨some 10, some (6, false), .bin (.eql) (.t 9) (.c (.str [40]))⟩, ⟨some 11, none, .pick (.t 6) (.c (.bool true)) (.t 10)⟩] [4, 5, 6, 7, 8, 9, 10]
@[simp] theorem gR_sequence_c2_eq : aw PP gR_sequence_c2 K env H = awOps PP [⟨some 4, none, .mov (.t 0)⟩, ⟨some 5, none, .call (.c (.fn (.func 87) [] [])) [.t 4]⟩, ⟨some 6, none, .mov (.t 5)⟩, ⟨some 7, some (6, false), .mov (.t 0)⟩, ⟨some 8, some (6, false), .call (.c (.fn (.func 72) [] [])) [.t 7]⟩, ⟨some 9, some (6, false), .fld 1 1 1 false (.t 8)⟩, ⟨some 10, some (6, false), .bin (.eql) (.t 9) (.c (.str [40]))⟩, ⟨some 11, none, .pick (.t 6) (.c (.bool true)) (.t 10)⟩] (regK K [4, 5, 6, 7, 8, 9, 10]) (panK K) env H := aw_reg _ _
def gR_sequence_c3 : AC := .cond (.t 11) .skip (.exit 0)
@[simp] theorem gR_sequence_c3_eq : aw PP gR_sequence_c3 K env H = condQ PP (Opd.ev env (.t 11)) .skip (.exit 0) K env H := aw_cond _ .skip (.exit 0)
def gR_sequence_c4 : AC := .seq gR_sequence_c2 gR_sequence_c3
@[simp] theorem gR_sequence_c4_eq : aw PP gR_sequence_c4 K env H = aw PP gR_sequence_c2 (seqK PP gR_sequence_c3 K) env H := aw_seq gR_sequence_c2 gR_sequence_c3
def gR_sequence_c5 : AC := .reg [⟨some 12, none, .mov (.t 3)⟩, ⟨some 13, none, .mov (.t 0)⟩, ⟨some 14, none, .call (.c (.fn (.func 92) [] [])) [.t 13]⟩, ⟨some 15, none, .bsl false 33 3 1 (.struct [.int (.i64) 0, .str [], .nils]) [(0, .t 14)]⟩, ⟨some 16, none, .app 33 3 48 (.t 12) (.t 15)⟩, ⟨some 3, none, .mov (.t 16)⟩] [11, 12, 13, 14, 15, 16]
@[simp] theorem gR_sequence_c5_eq : aw PP gR_sequence_c5 K env H = awOps PP [⟨some 12, none, .mov (.t 3)⟩, ⟨some 13, none, .mov (.t 0)⟩, ⟨some 14, none, .call (.c (.fn (.func 92) [] [])) [.t 13]⟩, ⟨some 15, none, .bsl false 33 3 1 (.struct [.int (.i64) 0, .str [], .nils]) [(0, .t 14)]⟩, ⟨some 16, none, .app 33 3 48 (.t 12) (.t 15)⟩, ⟨some 3, none, .mov (.t 16)⟩] (regK K [11, 12, 13, 14, 15, 16]) (panK K) env H := aw_reg _ _
def gR_sequence_c6 : AC := .block 1 gR_sequence_c5
@[simp] theorem gR_sequence_c6_eq : aw PP gR_sequence_c6 K env H = aw PP gR_sequence_c5 (blockK 1 K) env H := aw_block _ gR_sequence_c5
def gR_sequence_c7 : AC := .seq gR_sequence_c4 gR_sequence_c6
@[simp] theorem gR_sequence_c7_eq : aw PP gR_sequence_c7 K env H = aw PP gR_sequence_c4 (seqK PP gR_sequence_c6 K) env H := aw_seq gR_sequence_c4 gR_sequence_c6
def gR_sequence_c8 : AC := .loop gR_sequence_c7
def gR_sequence_c9 : AC := .block 0 gR_sequence_c8
@[simp] theorem gR_sequence_c9_eq : aw PP gR_sequence_c9 K env H = aw PP gR_sequence_c8 (blockK 0 K) env H := aw_block _ gR_sequence_c8
def gR_sequence_c10 : AC := .reg [⟨some 17, none, .mov (.t 3)⟩, ⟨some 18, none, .lenl (.t 17)⟩, ⟨some 19, none, .bin (.eql) (.t 18) (.c (.int (.i64) 1))⟩] [0, 11, 17, 18]
@[simp] theorem gR_sequence_c10_eq : aw PP gR_sequence_c10 K env H = awOps PP [⟨some 17, none, .mov (.t 3)⟩, ⟨some 18, none, .lenl (.t 17)⟩, ⟨some 19, none, .bin (.eql) (.t 18) (.c (.int (.i64) 1))⟩] (regK K [0, 11, 17, 18]) (panK K) env H := aw_reg _ _
def gR_sequence_c11 : AC := .reg [⟨some 20, none, .mov (.t 3)⟩, ⟨some 21, none, .ixa 3 (.t 20) (.c (.int (.i64) 0))⟩, ⟨some 22, none, .ld true 3 (.t 21)⟩, ⟨none, none, .st 3 (.t 2) (.t 22)⟩] [3, 19, 20, 21, 22]
@[simp] theorem gR_sequence_c11_eq : aw PP gR_sequence_c11 K env H = awOps PP [⟨some 20, none, .mov (.t 3)⟩, ⟨some 21, none, .ixa 3 (.t 20) (.c (.int (.i64) 0))⟩, ⟨some 22, none, .ld true 3 (.t 21)⟩, ⟨none, none, .st 3 (.t 2) (.t 22)⟩] (regK K [3, 19, 20, 21, 22]) (panK K) env H := aw_reg _ _
def gR_sequence_c12 : AC := .seq gR_sequence_c11 .ret
@[simp] theorem gR_sequence_c12_eq : aw PP gR_sequence_c12 K env H = aw PP gR_sequence_c11 (seqK PP .ret K) env H := aw_seq gR_sequence_c11 .ret
def gR_sequence_c13 : AC := .cond (.t 19) gR_sequence_c12 .skip
@[simp] theorem gR_sequence_c13_eq : aw PP gR_sequence_c13 K env H = condQ PP (Opd.ev env (.t 19)) gR_sequence_c12 .skip K env H := aw_cond _ gR_sequence_c12 .skip
def gR_sequence_c14 : AC := .seq gR_sequence_c10 gR_sequence_c13
@[simp] theorem gR_sequence_c14_eq : aw PP gR_sequence_c14 K env H = aw PP gR_sequence_c10 (seqK PP gR_sequence_c13 K) env H := aw_seq gR_sequence_c10 gR_sequence_c13
def gR_sequence_c15 : AC := .reg [⟨some 23, none, .mov (.t 3)⟩, ⟨some 24, none, .build [.int (.i64) 0, .str [], .nils] [(0, .c (.int (.i64) 2)), (2, .t 23)]⟩, ⟨none, none, .st 3 (.t 2) (.t 24)⟩] [3, 19, 23, 24]
@[simp] theorem gR_sequence_c15_eq : aw PP gR_sequence_c15 K env H = awOps PP [⟨some 23, none, .mov (.t 3)⟩, ⟨some 24, none, .build [.int (.i64) 0, .str [], .nils] [(0, .c (.int (.i64) 2)), (2, .t 23)]⟩, ⟨none, none, .st 3 (.t 2) (.t 24)⟩] (regK K [3, 19, 23, 24]) (panK K) env H := aw_reg _ _
def gR_sequence_c16 : AC := .seq gR_sequence_c15 .ret
@[simp] theorem gR_sequence_c16_eq : aw PP gR_sequence_c16 K env H = aw PP gR_sequence_c15 (seqK PP .ret K) env H := aw_seq gR_sequence_c15 .ret
def gR_sequence_c17 : AC := .seq gR_sequence_c14 gR_sequence_c16
@[simp] theorem gR_sequence_c17_eq : aw PP gR_sequence_c17 K env H = aw PP gR_sequence_c14 (seqK PP gR_sequence_c16 K) env H := aw_seq gR_sequence_c14 gR_sequence_c16
def gR_sequence_c18 : AC := .seq gR_sequence_c9 gR_sequence_c17
@[simp] theorem gR_sequence_c18_eq : aw PP gR_sequence_c18 K env H = aw PP gR_sequence_c9 (seqK PP gR_sequence_c17 K) env H := aw_seq gR_sequence_c9 gR_sequence_c17
def gR_sequence_c19 : AC := .seq gR_sequence_c1 gR_sequence_c18
@[simp] theorem gR_sequence_c19_eq : aw PP gR_sequence_c19 K env H = aw PP gR_sequence_c1 (seqK PP gR_sequence_c18 K) env H := aw_seq gR_sequence_c1 gR_sequence_c18
def gR_sequence_c20 : AC := .seq gR_sequence_c0 gR_sequence_c19
@[simp] theorem gR_sequence_c20_eq : aw PP gR_sequence_c20 K env H = aw PP gR_sequence_c0 (seqK PP gR_sequence_c19 K) env H := aw_seq gR_sequence_c0 gR_sequence_c19
def gR_sequence_ac : AC := gR_sequence_c20
@[simp] theorem gR_sequence_ac_eq : aw PP gR_sequence_ac K env H = aw PP gR_sequence_c20 K env H := Eq.trans rfl rfl
def gR_sequence_rs : List ARV := [.cell 2 true 3]
abbrev gR_sequence_id : Nat := 88
theorem gR_sequence_comp : compF PP gR_sequence_kl gR_sequence_ow 1 Tryd.f88 = some (gR_sequence_ac, gR_sequence_rs) := by kernel_rfl
theorem gR_sequence_enter {args : List AV} {H : AHeap} {post : ARes → AHeap → Prop} (ha : args.length = 1) (h : aw PP gR_sequence_ac (retK gR_sequence_rs post) (argEnv 0 args) H) : ACalls PP gR_sequence_id args H post := .enterF Tryd.func88 PP_mix gR_sequence_comp ha h

/-! slices.IndexFunc[[]emendate.api.GExpr,emendate.api.GExpr] -/
def sI_GExpr_kl : Nat → List Nat
  | 0 => [4]
  | 1 => [6]
  | 3 => [9, 10]
  | 4 => [11, 12, 13, 14, 15]
  | 5 => [0, 1, 5, 7, 8, 16, 17]
  | 6 => [5, 16, 18]
  | 7 => [0, 1, 7, 8, 9]
  | _ => []
def sI_GExpr_ow : Nat → Nat → Bool := fun _ _ => false
def sI_GExpr_c0 : AC := .reg [⟨some 4, none, .mov (.c (.int (.i64) 0))⟩] [4]
@[simp] theorem sI_GExpr_c0_eq : aw PP sI_GExpr_c0 K env H = awOps PP [⟨some 4, none, .mov (.c (.int (.i64) 0))⟩] (regK K [4]) (panK K) env H := aw_reg _ _
def sI_GExpr_c1 : AC := .reg [⟨some 6, none, .mov (.t 0)⟩, ⟨some 7, none, .lenl (.t 6)⟩, ⟨some 8, none, .mov (.c (.int (.i64) 0))⟩] [6]
@[simp] theorem sI_GExpr_c1_eq : aw PP sI_GExpr_c1 K env H = awOps PP [⟨some 6, none, .mov (.t 0)⟩, ⟨some 7, none, .lenl (.t 6)⟩, ⟨some 8, none, .mov (.c (.int (.i64) 0))⟩] (regK K [6]) (panK K) env H := aw_reg _ _
def sI_GExpr_c2 : AC := .reg [⟨some 9, none, .bin (.lss) (.t 8) (.t 7)⟩] []
@[simp] theorem sI_GExpr_c2_eq : aw PP sI_GExpr_c2 K env H = awOps PP [⟨some 9, none, .bin (.lss) (.t 8) (.t 7)⟩] (regK K []) (panK K) env H := aw_reg _ _
def sI_GExpr_c3 : AC := .cond (.t 9) .skip (.exit 0)
@[simp] theorem sI_GExpr_c3_eq : aw PP sI_GExpr_c3 K env H = condQ PP (Opd.ev env (.t 9)) .skip (.exit 0) K env H := aw_cond _ .skip (.exit 0)
def sI_GExpr_c4 : AC := .reg [⟨some 10, none, .mov (.t 8)⟩, ⟨some 5, none, .mov (.t 10)⟩] [9, 10]
@[simp] theorem sI_GExpr_c4_eq : aw PP sI_GExpr_c4 K env H = awOps PP [⟨some 10, none, .mov (.t 8)⟩, ⟨some 5, none, .mov (.t 10)⟩] (regK K [9, 10]) (panK K) env H := aw_reg _ _
def sI_GExpr_c5 : AC := .reg [⟨some 11, none, .mov (.t 1)⟩, ⟨some 12, none, .mov (.t 0)⟩, ⟨some 13, none, .mov (.t 5)⟩, ⟨some 14, none, .ixa 3 (.t 12) (.t 13)⟩, ⟨some 15, none, .ld true 3 (.t 14)⟩, ⟨some 16, none, .call (.t 11) [.t 15]⟩] [11, 12, 13, 14, 15]
@[simp] theorem sI_GExpr_c5_eq : aw PP sI_GExpr_c5 K env H = awOps PP [⟨some 11, none, .mov (.t 1)⟩, ⟨some 12, none, .mov (.t 0)⟩, ⟨some 13, none, .mov (.t 5)⟩, ⟨some 14, none, .ixa 3 (.t 12) (.t 13)⟩, ⟨some 15, none, .ld true 3 (.t 14)⟩, ⟨some 16, none, .call (.t 11) [.t 15]⟩] (regK K [11, 12, 13, 14, 15]) (panK K) env H := aw_reg _ _
def sI_GExpr_c6 : AC := .reg [⟨some 17, none, .mov (.t 5)⟩, ⟨some 4, none, .mov (.t 17)⟩] [0, 1, 5, 7, 8, 16, 17]
@[simp] theorem sI_GExpr_c6_eq : aw PP sI_GExpr_c6 K env H = awOps PP [⟨some 17, none, .mov (.t 5)⟩, ⟨some 4, none, .mov (.t 17)⟩] (regK K [0, 1, 5, 7, 8, 16, 17]) (panK K) env H := aw_reg _ _
def sI_GExpr_c7 : AC := .seq sI_GExpr_c6 .ret
@[simp] theorem sI_GExpr_c7_eq : aw PP sI_GExpr_c7 K env H = aw PP sI_GExpr_c6 (seqK PP .ret K) env H := aw_seq sI_GExpr_c6 .ret
def sI_GExpr_c8 : AC := .cond (.t 16) sI_GExpr_c7 .skip
@[simp] theorem sI_GExpr_c8_eq : aw PP sI_GExpr_c8 K env H = condQ PP (Opd.ev env (.t 16)) sI_GExpr_c7 .skip K env H := aw_cond _ sI_GExpr_c7 .skip
def sI_GExpr_c9 : AC := .seq sI_GExpr_c5 sI_GExpr_c8
@[simp] theorem sI_GExpr_c9_eq : aw PP sI_GExpr_c9 K env H = aw PP sI_GExpr_c5 (seqK PP sI_GExpr_c8 K) env H := aw_seq sI_GExpr_c5 sI_GExpr_c8
def sI_GExpr_c10 : AC := .seq sI_GExpr_c4 sI_GExpr_c9
@[simp] theorem sI_GExpr_c10_eq : aw PP sI_GExpr_c10 K env H = aw PP sI_GExpr_c4 (seqK PP sI_GExpr_c9 K) env H := aw_seq sI_GExpr_c4 sI_GExpr_c9
def sI_GExpr_c11 : AC := .block 1 sI_GExpr_c10
@[simp] theorem sI_GExpr_c11_eq : aw PP sI_GExpr_c11 K env H = aw PP sI_GExpr_c10 (blockK 1 K) env H := aw_block _ sI_GExpr_c10
def sI_GExpr_c12 : AC := .reg [⟨some 18, none, .bin (.add) (.t 8) (.c (.int (.i64) 1))⟩, ⟨some 8, none, .mov (.t 18)⟩] [5, 16, 18]
@[simp] theorem sI_GExpr_c12_eq : aw PP sI_GExpr_c12 K env H = awOps PP [⟨some 18, none, .bin (.add) (.t 8) (.c (.int (.i64) 1))⟩, ⟨some 8, none, .mov (.t 18)⟩] (regK K [5, 16, 18]) (panK K) env H := aw_reg _ _
def sI_GExpr_c13 : AC := .seq sI_GExpr_c11 sI_GExpr_c12
@[simp] theorem sI_GExpr_c13_eq : aw PP sI_GExpr_c13 K env H = aw PP sI_GExpr_c11 (seqK PP sI_GExpr_c12 K) env H := aw_seq sI_GExpr_c11 sI_GExpr_c12
def sI_GExpr_c14 : AC := .seq sI_GExpr_c3 sI_GExpr_c13
@[simp] theorem sI_GExpr_c14_eq : aw PP sI_GExpr_c14 K env H = aw PP sI_GExpr_c3 (seqK PP sI_GExpr_c13 K) env H := aw_seq sI_GExpr_c3 sI_GExpr_c13
def sI_GExpr_c15 : AC := .seq sI_GExpr_c2 sI_GExpr_c14
@[simp] theorem sI_GExpr_c15_eq : aw PP sI_GExpr_c15 K env H = aw PP sI_GExpr_c2 (seqK PP sI_GExpr_c14 K) env H := aw_seq sI_GExpr_c2 sI_GExpr_c14
def sI_GExpr_c16 : AC := .loop sI_GExpr_c15
def sI_GExpr_c17 : AC := .block 0 sI_GExpr_c16
@[simp] theorem sI_GExpr_c17_eq : aw PP sI_GExpr_c17 K env H = aw PP sI_GExpr_c16 (blockK 0 K) env H := aw_block _ sI_GExpr_c16
def sI_GExpr_c18 : AC := .seq sI_GExpr_c1 sI_GExpr_c17
@[simp] theorem sI_GExpr_c18_eq : aw PP sI_GExpr_c18 K env H = aw PP sI_GExpr_c1 (seqK PP sI_GExpr_c17 K) env H := aw_seq sI_GExpr_c1 sI_GExpr_c17
def sI_GExpr_c19 : AC := .reg [⟨some 4, none, .mov (.c (.int (.i64) (-1)))⟩] [0, 1, 7, 8, 9]
@[simp] theorem sI_GExpr_c19_eq : aw PP sI_GExpr_c19 K env H = awOps PP [⟨some 4, none, .mov (.c (.int (.i64) (-1)))⟩] (regK K [0, 1, 7, 8, 9]) (panK K) env H := aw_reg _ _
def sI_GExpr_c20 : AC := .seq sI_GExpr_c19 .ret
@[simp] theorem sI_GExpr_c20_eq : aw PP sI_GExpr_c20 K env H = aw PP sI_GExpr_c19 (seqK PP .ret K) env H := aw_seq sI_GExpr_c19 .ret
def sI_GExpr_c21 : AC := .seq sI_GExpr_c18 sI_GExpr_c20
@[simp] theorem sI_GExpr_c21_eq : aw PP sI_GExpr_c21 K env H = aw PP sI_GExpr_c18 (seqK PP sI_GExpr_c20 K) env H := aw_seq sI_GExpr_c18 sI_GExpr_c20
def sI_GExpr_c22 : AC := .seq sI_GExpr_c0 sI_GExpr_c21
@[simp] theorem sI_GExpr_c22_eq : aw PP sI_GExpr_c22 K env H = aw PP sI_GExpr_c0 (seqK PP sI_GExpr_c21 K) env H := aw_seq sI_GExpr_c0 sI_GExpr_c21
def sI_GExpr_ac : AC := sI_GExpr_c22
@[simp] theorem sI_GExpr_ac_eq : aw PP sI_GExpr_ac K env H = aw PP sI_GExpr_c22 K env H := Eq.trans rfl rfl
def sI_GExpr_rs : List ARV := [.tmp 4]
abbrev sI_GExpr_id : Nat := 89
theorem sI_GExpr_comp : compF PP sI_GExpr_kl sI_GExpr_ow 2 Tryd.f89 = some (sI_GExpr_ac, sI_GExpr_rs) := by kernel_rfl
theorem sI_GExpr_enter {args : List AV} {H : AHeap} {post : ARes → AHeap → Prop} (ha : args.length = 2) (h : aw PP sI_GExpr_ac (retK sI_GExpr_rs post) (argEnv 0 args) H) : ACalls PP sI_GExpr_id args H post := .enterF Tryd.func89 PP_mix sI_GExpr_comp ha h

/-! (*emendate.grammarparser.reader).item -/
def gR_item_kl : Nat → List Nat
  | 1 => [5, 6]
  | 2 => [4]
  | 3 => [7, 8]
  | 4 => [0, 3, 10, 15]
  | 5 => [12]
  | 6 => [9, 11]
  | 7 => [11, 14]
  | 8 => [9, 13]
  | 9 => [9, 13, 16]
  | 10 => [15]
  | 11 => [17, 18]
  | 12 => [4, 19, 20, 21, 22]
  | _ => []
def gR_item_ow : Nat → Nat → Bool := fun _ _ => false
def gR_item_c0 : AC := .reg [⟨some 2, none, .alloc (.struct [.int (.i64) 0, .str [], .nils]) 33⟩] []
@[simp] theorem gR_item_c0_eq : aw PP gR_item_c0 K env H = awOps PP [⟨some 2, none, .alloc (.struct [.int (.i64) 0, .str [], .nils]) 33⟩] (regK K []) (panK K) env H := aw_reg _ _
def gR_item_c1 : AC := .reg [⟨some 5, none, .mov (.t 0)⟩, ⟨some 6, none, .call (.c (.fn (.func 97) [] [])) [.t 5]⟩, ⟨some 3, none, .alloc (.struct [.int (.i64) 0, .str [], .nils]) 33⟩, ⟨none, none, .st 3 (.t 3) (.t 6)⟩] [5, 6]
@[simp] theorem gR_item_c1_eq : aw PP gR_item_c1 K env H = awOps PP [⟨some 5, none, .mov (.t 0)⟩, ⟨some 6, none, .call (.c (.fn (.func 97) [] [])) [.t 5]⟩, ⟨some 3, none, .alloc (.struct [.int (.i64) 0, .str [], .nils]) 33⟩, ⟨none, none, .st 3 (.t 3) (.t 6)⟩] (regK K [5, 6]) (panK K) env H := aw_reg _ _
def gR_item_c2 : AC := .reg [⟨some 4, none, .mov (.c (.int (.i64) 0))⟩] [4]
@[simp] theorem gR_item_c2_eq : aw PP gR_item_c2 K env H = awOps PP [⟨some 4, none, .mov (.c (.int (.i64) 0))⟩] (regK K [4]) (panK K) env H := aw_reg _ _
def gR_item_c3 : AC := .reg [⟨some 7, none, .mov (.t 0)⟩, ⟨some 8, none, .call (.c (.fn (.func 72) [] [])) [.t 7]⟩, ⟨some 9, none, .fld 1 1 1 false (.t 8)⟩] [7, 8]
@[simp] theorem gR_item_c3_eq : aw PP gR_item_c3 K env H = awOps PP [⟨some 7, none, .mov (.t 0)⟩, ⟨some 8, none, .call (.c (.fn (.func 72) [] [])) [.t 7]⟩, ⟨some 9, none, .fld 1 1 1 false (.t 8)⟩] (regK K [7, 8]) (panK K) env H := aw_reg _ _
def gR_item_c4 : AC := .reg [⟨some 12, none, .bin (.eql) (.t 9) (.c (.str [42]))⟩, ⟨some 11, none, .mov (.t 12)⟩] [12]
@[simp] theorem gR_item_c4_eq : aw PP gR_item_c4 K env H = awOps PP [⟨some 12, none, .bin (.eql) (.t 9) (.c (.str [42]))⟩, ⟨some 11, none, .mov (.t 12)⟩] (regK K [12]) (panK K) env H := aw_reg _ _
def gR_item_c5 : AC := .reg [⟨some 4, none, .mov (.c (.int (.i64) 5))⟩] [9, 11]
@[simp] theorem gR_item_c5_eq : aw PP gR_item_c5 K env H = awOps PP [⟨some 4, none, .mov (.c (.int (.i64) 5))⟩] (regK K [9, 11]) (panK K) env H := aw_reg _ _
def gR_item_c6 : AC := .reg [⟨some 14, none, .bin (.eql) (.t 9) (.c (.str [43]))⟩, ⟨some 13, none, .mov (.t 14)⟩] [11, 14]
@[simp] theorem gR_item_c6_eq : aw PP gR_item_c6 K env H = awOps PP [⟨some 14, none, .bin (.eql) (.t 9) (.c (.str [43]))⟩, ⟨some 13, none, .mov (.t 14)⟩] (regK K [11, 14]) (panK K) env H := aw_reg _ _
def gR_item_c7 : AC := .reg [⟨some 4, none, .mov (.c (.int (.i64) 6))⟩] [9, 13]
@[simp] theorem gR_item_c7_eq : aw PP gR_item_c7 K env H = awOps PP [⟨some 4, none, .mov (.c (.int (.i64) 6))⟩] (regK K [9, 13]) (panK K) env H := aw_reg _ _
def gR_item_c8 : AC := .reg [⟨some 16, none, .bin (.eql) (.t 9) (.c (.str [63]))⟩, ⟨some 15, none, .mov (.t 16)⟩] [9, 13, 16]
@[simp] theorem gR_item_c8_eq : aw PP gR_item_c8 K env H = awOps PP [⟨some 16, none, .bin (.eql) (.t 9) (.c (.str [63]))⟩, ⟨some 15, none, .mov (.t 16)⟩] (regK K [9, 13, 16]) (panK K) env H := aw_reg _ _
def gR_item_c9 : AC := .reg [⟨some 4, none, .mov (.c (.int (.i64) 4))⟩] [15]
@[simp] theorem gR_item_c9_eq : aw PP gR_item_c9 K env H = awOps PP [⟨some 4, none, .mov (.c (.int (.i64) 4))⟩] (regK K [15]) (panK K) env H := aw_reg _ _
def gR_item_c10 : AC := .reg [⟨some 10, none, .ld true 3 (.t 3)⟩, ⟨none, none, .st 3 (.t 2) (.t 10)⟩] [0, 3, 10, 15]
@[simp] theorem gR_item_c10_eq : aw PP gR_item_c10 K env H = awOps PP [⟨some 10, none, .ld true 3 (.t 3)⟩, ⟨none, none, .st 3 (.t 2) (.t 10)⟩] (regK K [0, 3, 10, 15]) (panK K) env H := aw_reg _ _
def gR_item_c11 : AC := .seq gR_item_c10 .ret
@[simp] theorem gR_item_c11_eq : aw PP gR_item_c11 K env H = aw PP gR_item_c10 (seqK PP .ret K) env H := aw_seq gR_item_c10 .ret
def gR_item_c12 : AC := .cond (.t 15) gR_item_c9 gR_item_c11
@[simp] theorem gR_item_c12_eq : aw PP gR_item_c12 K env H = condQ PP (Opd.ev env (.t 15)) gR_item_c9 gR_item_c11 K env H := aw_cond _ gR_item_c9 gR_item_c11
def gR_item_c13 : AC := .seq gR_item_c8 gR_item_c12
@[simp] theorem gR_item_c13_eq : aw PP gR_item_c13 K env H = aw PP gR_item_c8 (seqK PP gR_item_c12 K) env H := aw_seq gR_item_c8 gR_item_c12
def gR_item_c14 : AC := .cond (.t 13) gR_item_c7 gR_item_c13
@[simp] theorem gR_item_c14_eq : aw PP gR_item_c14 K env H = condQ PP (Opd.ev env (.t 13)) gR_item_c7 gR_item_c13 K env H := aw_cond _ gR_item_c7 gR_item_c13
def gR_item_c15 : AC := .seq gR_item_c6 gR_item_c14
@[simp] theorem gR_item_c15_eq : aw PP gR_item_c15 K env H = aw PP gR_item_c6 (seqK PP gR_item_c14 K) env H := aw_seq gR_item_c6 gR_item_c14
def gR_item_c16 : AC := .cond (.t 11) gR_item_c5 gR_item_c15
@[simp] theorem gR_item_c16_eq : aw PP gR_item_c16 K env H = condQ PP (Opd.ev env (.t 11)) gR_item_c5 gR_item_c15 K env H := aw_cond _ gR_item_c5 gR_item_c15
def gR_item_c17 : AC := .seq gR_item_c4 gR_item_c16
@[simp] theorem gR_item_c17_eq : aw PP gR_item_c17 K env H = aw PP gR_item_c4 (seqK PP gR_item_c16 K) env H := aw_seq gR_item_c4 gR_item_c16
def gR_item_c18 : AC := .block 2 gR_item_c17
@[simp] theorem gR_item_c18_eq : aw PP gR_item_c18 K env H = aw PP gR_item_c17 (blockK 2 K) env H := aw_block _ gR_item_c17
def gR_item_c19 : AC := .seq gR_item_c3 gR_item_c18
@[simp] theorem gR_item_c19_eq : aw PP gR_item_c19 K env H = aw PP gR_item_c3 (seqK PP gR_item_c18 K) env H := aw_seq gR_item_c3 gR_item_c18
def gR_item_c20 : AC := .reg [⟨some 17, none, .mov (.t 0)⟩, ⟨some 18, none, .call (.c (.fn (.func 74) [] [])) [.t 17]⟩] [17, 18]
@[simp] theorem gR_item_c20_eq : aw PP gR_item_c20 K env H = awOps PP [⟨some 17, none, .mov (.t 0)⟩, ⟨some 18, none, .call (.c (.fn (.func 74) [] [])) [.t 17]⟩] (regK K [17, 18]) (panK K) env H := aw_reg _ _
def gR_item_c21 : AC := .reg [⟨some 19, none, .mov (.t 4)⟩, ⟨some 20, none, .ld true 3 (.t 3)⟩, ⟨some 21, none, .bsl false 33 3 1 (.struct [.int (.i64) 0, .str [], .nils]) [(0, .t 20)]⟩, ⟨some 22, none, .build [.int (.i64) 0, .str [], .nils] [(0, .t 19), (2, .t 21)]⟩, ⟨none, none, .st 3 (.t 3) (.t 22)⟩] [4, 19, 20, 21, 22]
@[simp] theorem gR_item_c21_eq : aw PP gR_item_c21 K env H = awOps PP [⟨some 19, none, .mov (.t 4)⟩, ⟨some 20, none, .ld true 3 (.t 3)⟩, ⟨some 21, none, .bsl false 33 3 1 (.struct [.int (.i64) 0, .str [], .nils]) [(0, .t 20)]⟩, ⟨some 22, none, .build [.int (.i64) 0, .str [], .nils] [(0, .t 19), (2, .t 21)]⟩, ⟨none, none, .st 3 (.t 3) (.t 22)⟩] (regK K [4, 19, 20, 21, 22]) (panK K) env H := aw_reg _ _
def gR_item_c22 : AC := .seq gR_item_c20 gR_item_c21
@[simp] theorem gR_item_c22_eq : aw PP gR_item_c22 K env H = aw PP gR_item_c20 (seqK PP gR_item_c21 K) env H := aw_seq gR_item_c20 gR_item_c21
def gR_item_c23 : AC := .seq gR_item_c19 gR_item_c22
@[simp] theorem gR_item_c23_eq : aw PP gR_item_c23 K env H = aw PP gR_item_c19 (seqK PP gR_item_c22 K) env H := aw_seq gR_item_c19 gR_item_c22
def gR_item_c24 : AC := .seq gR_item_c2 gR_item_c23
@[simp] theorem gR_item_c24_eq : aw PP gR_item_c24 K env H = aw PP gR_item_c2 (seqK PP gR_item_c23 K) env H := aw_seq gR_item_c2 gR_item_c23
def gR_item_c25 : AC := .block 1 gR_item_c24
@[simp] theorem gR_item_c25_eq : aw PP gR_item_c25 K env H = aw PP gR_item_c24 (blockK 1 K) env H := aw_block _ gR_item_c24
def gR_item_c26 : AC := .loop gR_item_c25
def gR_item_c27 : AC := .block 0 gR_item_c26
@[simp] theorem gR_item_c27_eq : aw PP gR_item_c27 K env H = aw PP gR_item_c26 (blockK 0 K) env H := aw_block _ gR_item_c26
def gR_item_c28 : AC := .seq gR_item_c1 gR_item_c27
@[simp] theorem gR_item_c28_eq : aw PP gR_item_c28 K env H = aw PP gR_item_c1 (seqK PP gR_item_c27 K) env H := aw_seq gR_item_c1 gR_item_c27
def gR_item_c29 : AC := .seq gR_item_c0 gR_item_c28
@[simp] theorem gR_item_c29_eq : aw PP gR_item_c29 K env H = aw PP gR_item_c0 (seqK PP gR_item_c28 K) env H := aw_seq gR_item_c0 gR_item_c28
def gR_item_ac : AC := gR_item_c29
@[simp] theorem gR_item_ac_eq : aw PP gR_item_ac K env H = aw PP gR_item_c29 K env H := Eq.trans rfl rfl
def gR_item_rs : List ARV := [.cell 2 true 3]
abbrev gR_item_id : Nat := 92
theorem gR_item_comp : compF PP gR_item_kl gR_item_ow 1 Tryd.f92 = some (gR_item_ac, gR_item_rs) := by kernel_rfl
theorem gR_item_enter {args : List AV} {H : AHeap} {post : ARes → AHeap → Prop} (ha : args.length = 1) (h : aw PP gR_item_ac (retK gR_item_rs post) (argEnv 0 args) H) : ACalls PP gR_item_id args H post := .enterF Tryd.func92 PP_mix gR_item_comp ha h

/-! (*emendate.grammarparser.reader).primary -/
def gR_primary_kl : Nat → List Nat
  | 1 => [4]
  | 2 => [0, 5, 6, 7, 8]
  | 3 => [5, 9, 10]
  | 4 => [11, 12, 13]
  | 5 => [14, 15, 16]
  | 6 => [17, 18, 19]
  | 7 => [20, 21, 22, 23, 24]
  | 8 => [0, 17, 25, 26]
  | 9 => [27, 28]
  | 10 => [3, 29, 30, 31, 32]
  | 11 => [3, 29, 33, 34]
  | _ => []
def gR_primary_ow : Nat → Nat → Bool := fun a b => (a == 4 && b == 2)
def gR_primary_c0 : AC := .reg [⟨some 2, none, .alloc (.struct [.int (.i64) 0, .str [], .nils]) 33⟩] []
@[simp] theorem gR_primary_c0_eq : aw PP gR_primary_c0 K env H = awOps PP [⟨some 2, none, .alloc (.struct [.int (.i64) 0, .str [], .nils]) 33⟩] (regK K []) (panK K) env H := aw_reg _ _
def gR_primary_c1 : AC := .reg [⟨some 4, none, .mov (.t 0)⟩, ⟨some 5, none, .call (.c (.fn (.func 87) [] [])) [.t 4]⟩] [4]
@[simp] theorem gR_primary_c1_eq : aw PP gR_primary_c1 K env H = awOps PP [⟨some 4, none, .mov (.t 0)⟩, ⟨some 5, none, .call (.c (.fn (.func 87) [] [])) [.t 4]⟩] (regK K [4]) (panK K) env H := aw_reg _ _
def gR_primary_c2 : AC := .reg [⟨some 6, none, .mov (.t 0)⟩, ⟨some 7, none, .call (.c (.fn (.func 50) [] [])) [.t 6]⟩, ⟨some 8, none, .build [.int (.i64) 0, .str [], .nils] [(0, .c (.int (.i64) 1)), (1, .t 7)]⟩, ⟨none, none, .st 3 (.t 2) (.t 8)⟩] [0, 5, 6, 7, 8]
@[simp] theorem gR_primary_c2_eq : aw PP gR_primary_c2 K env H = awOps PP [⟨some 6, none, .mov (.t 0)⟩, ⟨some 7, none, .call (.c (.fn (.func 50) [] [])) [.t 6]⟩, ⟨some 8, none, .build [.int (.i64) 0, .str [], .nils] [(0, .c (.int (.i64) 1)), (1, .t 7)]⟩, ⟨none, none, .st 3 (.t 2) (.t 8)⟩] (regK K [0, 5, 6, 7, 8]) (panK K) env H := aw_reg _ _
def gR_primary_c3 : AC := .seq gR_primary_c2 .ret
@[simp] theorem gR_primary_c3_eq : aw PP gR_primary_c3 K env H = aw PP gR_primary_c2 (seqK PP .ret K) env H := aw_seq gR_primary_c2 .ret
def gR_primary_c4 : AC := .cond (.t 5) gR_primary_c3 .skip
@[simp] theorem gR_primary_c4_eq : aw PP gR_primary_c4 K env H = condQ PP (Opd.ev env (.t 5)) gR_primary_c3 .skip K env H := aw_cond _ gR_primary_c3 .skip
def gR_primary_c5 : AC := .seq gR_primary_c1 gR_primary_c4
@[simp] theorem gR_primary_c5_eq : aw PP gR_primary_c5 K env H = aw PP gR_primary_c1 (seqK PP gR_primary_c4 K) env H := aw_seq gR_primary_c1 gR_primary_c4
def gR_primary_c6 : AC := .reg [⟨some 9, none, .mov (.t 0)⟩, ⟨some 10, none, .call (.c (.fn (.func 49) [] [])) [.t 9, .c (.str [40])]⟩] [5, 9, 10]
@[simp] theorem gR_primary_c6_eq : aw PP gR_primary_c6 K env H = awOps PP [⟨some 9, none, .mov (.t 0)⟩, ⟨some 10, none, .call (.c (.fn (.func 49) [] [])) [.t 9, .c (.str [40])]⟩] (regK K [5, 9, 10]) (panK K) env H := aw_reg _ _
def gR_primary_c7 : AC := .reg [⟨some 11, none, .mov (.t 0)⟩, ⟨some 12, none, .call (.c (.fn (.func 88) [] [])) [.t 11]⟩, ⟨some 13, none, .bsl true 33 3 1 (.struct [.int (.i64) 0, .str [], .nils]) [(0, .t 12)]⟩, ⟨some 3, none, .mov (.t 13)⟩] [11, 12, 13]
@[simp] theorem gR_primary_c7_eq : aw PP gR_primary_c7 K env H = awOps PP [⟨some 11, none, .mov (.t 0)⟩, ⟨some 12, none, .call (.c (.fn (.func 88) [] [])) [.t 11]⟩, ⟨some 13, none, .bsl true 33 3 1 (.struct [.int (.i64) 0, .str [], .nils]) [(0, .t 12)]⟩, ⟨some 3, none, .mov (.t 13)⟩] (regK K [11, 12, 13]) (panK K) env H := aw_reg _ _
def gR_primary_c8 : AC := .reg [⟨some 14, none, .mov (.t 0)⟩, ⟨some 15, none, .call (.c (.fn (.func 72) [] [])) [.t 14]⟩, ⟨some 16, none, .fld 1 1 1 false (.t 15)⟩, ⟨some 17, none, .bin (.eql) (.t 16) (.c (.str [124]))⟩] [14, 15, 16]
@[simp] theorem gR_primary_c8_eq : aw PP gR_primary_c8 K env H = awOps PP [⟨some 14, none, .mov (.t 0)⟩, ⟨some 15, none, .call (.c (.fn (.func 72) [] [])) [.t 14]⟩, ⟨some 16, none, .fld 1 1 1 false (.t 15)⟩, ⟨some 17, none, .bin (.eql) (.t 16) (.c (.str [124]))⟩] (regK K [14, 15, 16]) (panK K) env H := aw_reg _ _
def gR_primary_c9 : AC := .cond (.t 17) .skip (.exit 0)
@[simp] theorem gR_primary_c9_eq : aw PP gR_primary_c9 K env H = condQ PP (Opd.ev env (.t 17)) .skip (.exit 0) K env H := aw_cond _ .skip (.exit 0)
def gR_primary_c10 : AC := .seq gR_primary_c8 gR_primary_c9
@[simp] theorem gR_primary_c10_eq : aw PP gR_primary_c10 K env H = aw PP gR_primary_c8 (seqK PP gR_primary_c9 K) env H := aw_seq gR_primary_c8 gR_primary_c9
def gR_primary_c11 : AC := .reg [⟨some 18, none, .mov (.t 0)⟩, ⟨some 19, none, .call (.c (.fn (.func 74) [] [])) [.t 18]⟩] [17, 18, 19]
@[simp] theorem gR_primary_c11_eq : aw PP gR_primary_c11 K env H = awOps PP [⟨some 18, none, .mov (.t 0)⟩, ⟨some 19, none, .call (.c (.fn (.func 74) [] [])) [.t 18]⟩] (regK K [17, 18, 19]) (panK K) env H := aw_reg _ _
def gR_primary_c12 : AC := .reg [⟨some 20, none, .mov (.t 3)⟩, ⟨some 21, none, .mov (.t 0)⟩, ⟨some 22, none, .call (.c (.fn (.func 88) [] [])) [.t 21]⟩, ⟨some 23, none, .bsl false 33 3 1 (.struct [.int (.i64) 0, .str [], .nils]) [(0, .t 22)]⟩, ⟨some 24, none, .app 33 3 48 (.t 20) (.t 23)⟩, ⟨some 3, none, .mov (.t 24)⟩] [20, 21, 22, 23, 24]
@[simp] theorem gR_primary_c12_eq : aw PP gR_primary_c12 K env H = awOps PP [⟨some 20, none, .mov (.t 3)⟩, ⟨some 21, none, .mov (.t 0)⟩, ⟨some 22, none, .call (.c (.fn (.func 88) [] [])) [.t 21]⟩, ⟨some 23, none, .bsl false 33 3 1 (.struct [.int (.i64) 0, .str [], .nils]) [(0, .t 22)]⟩, ⟨some 24, none, .app 33 3 48 (.t 20) (.t 23)⟩, ⟨some 3, none, .mov (.t 24)⟩] (regK K [20, 21, 22, 23, 24]) (panK K) env H := aw_reg _ _
def gR_primary_c13 : AC := .seq gR_primary_c11 gR_primary_c12
@[simp] theorem gR_primary_c13_eq : aw PP gR_primary_c13 K env H = aw PP gR_primary_c11 (seqK PP gR_primary_c12 K) env H := aw_seq gR_primary_c11 gR_primary_c12
def gR_primary_c14 : AC := .block 1 gR_primary_c13
@[simp] theorem gR_primary_c14_eq : aw PP gR_primary_c14 K env H = aw PP gR_primary_c13 (blockK 1 K) env H := aw_block _ gR_primary_c13
def gR_primary_c15 : AC := .seq gR_primary_c10 gR_primary_c14
@[simp] theorem gR_primary_c15_eq : aw PP gR_primary_c15 K env H = aw PP gR_primary_c10 (seqK PP gR_primary_c14 K) env H := aw_seq gR_primary_c10 gR_primary_c14
def gR_primary_c16 : AC := .loop gR_primary_c15
def gR_primary_c17 : AC := .block 0 gR_primary_c16
@[simp] theorem gR_primary_c17_eq : aw PP gR_primary_c17 K env H = aw PP gR_primary_c16 (blockK 0 K) env H := aw_block _ gR_primary_c16
def gR_primary_c18 : AC := .reg [⟨some 25, none, .mov (.t 0)⟩, ⟨some 26, none, .call (.c (.fn (.func 49) [] [])) [.t 25, .c (.str [41])]⟩] [0, 17, 25, 26]
@[simp] theorem gR_primary_c18_eq : aw PP gR_primary_c18 K env H = awOps PP [⟨some 25, none, .mov (.t 0)⟩, ⟨some 26, none, .call (.c (.fn (.func 49) [] [])) [.t 25, .c (.str [41])]⟩] (regK K [0, 17, 25, 26]) (panK K) env H := aw_reg _ _
def gR_primary_c19 : AC := .reg [⟨some 27, none, .mov (.t 3)⟩, ⟨some 28, none, .lenl (.t 27)⟩, ⟨some 29, none, .bin (.eql) (.t 28) (.c (.int (.i64) 1))⟩] [27, 28]
@[simp] theorem gR_primary_c19_eq : aw PP gR_primary_c19 K env H = awOps PP [⟨some 27, none, .mov (.t 3)⟩, ⟨some 28, none, .lenl (.t 27)⟩, ⟨some 29, none, .bin (.eql) (.t 28) (.c (.int (.i64) 1))⟩] (regK K [27, 28]) (panK K) env H := aw_reg _ _
def gR_primary_c20 : AC := .reg [⟨some 30, none, .mov (.t 3)⟩, ⟨some 31, none, .ixa 3 (.t 30) (.c (.int (.i64) 0))⟩, ⟨some 32, none, .ld true 3 (.t 31)⟩, ⟨none, none, .st 3 (.t 2) (.t 32)⟩] [3, 29, 30, 31, 32]
@[simp] theorem gR_primary_c20_eq : aw PP gR_primary_c20 K env H = awOps PP [⟨some 30, none, .mov (.t 3)⟩, ⟨some 31, none, .ixa 3 (.t 30) (.c (.int (.i64) 0))⟩, ⟨some 32, none, .ld true 3 (.t 31)⟩, ⟨none, none, .st 3 (.t 2) (.t 32)⟩] (regK K [3, 29, 30, 31, 32]) (panK K) env H := aw_reg _ _
def gR_primary_c21 : AC := .seq gR_primary_c20 .ret
@[simp] theorem gR_primary_c21_eq : aw PP gR_primary_c21 K env H = aw PP gR_primary_c20 (seqK PP .ret K) env H := aw_seq gR_primary_c20 .ret
def gR_primary_c22 : AC := .cond (.t 29) gR_primary_c21 .skip
@[simp] theorem gR_primary_c22_eq : aw PP gR_primary_c22 K env H = condQ PP (Opd.ev env (.t 29)) gR_primary_c21 .skip K env H := aw_cond _ gR_primary_c21 .skip
def gR_primary_c23 : AC := .seq gR_primary_c19 gR_primary_c22
@[simp] theorem gR_primary_c23_eq : aw PP gR_primary_c23 K env H = aw PP gR_primary_c19 (seqK PP gR_primary_c22 K) env H := aw_seq gR_primary_c19 gR_primary_c22
def gR_primary_c24 : AC := .reg [⟨some 33, none, .mov (.t 3)⟩, ⟨some 34, none, .build [.int (.i64) 0, .str [], .nils] [(0, .c (.int (.i64) 3)), (2, .t 33)]⟩, ⟨none, none, .st 3 (.t 2) (.t 34)⟩] [3, 29, 33, 34]
@[simp] theorem gR_primary_c24_eq : aw PP gR_primary_c24 K env H = awOps PP [⟨some 33, none, .mov (.t 3)⟩, ⟨some 34, none, .build [.int (.i64) 0, .str [], .nils] [(0, .c (.int (.i64) 3)), (2, .t 33)]⟩, ⟨none, none, .st 3 (.t 2) (.t 34)⟩] (regK K [3, 29, 33, 34]) (panK K) env H := aw_reg _ _
def gR_primary_c25 : AC := .seq gR_primary_c24 .ret
@[simp] theorem gR_primary_c25_eq : aw PP gR_primary_c25 K env H = aw PP gR_primary_c24 (seqK PP .ret K) env H := aw_seq gR_primary_c24 .ret
def gR_primary_c26 : AC := .seq gR_primary_c23 gR_primary_c25
@[simp] theorem gR_primary_c26_eq : aw PP gR_primary_c26 K env H = aw PP gR_primary_c23 (seqK PP gR_primary_c25 K) env H := aw_seq gR_primary_c23 gR_primary_c25
def gR_primary_c27 : AC := .seq gR_primary_c18 gR_primary_c26
@[simp] theorem gR_primary_c27_eq : aw PP gR_primary_c27 K env H = aw PP gR_primary_c18 (seqK PP gR_primary_c26 K) env H := aw_seq gR_primary_c18 gR_primary_c26
def gR_primary_c28 : AC := .seq gR_primary_c17 gR_primary_c27
@[simp] theorem gR_primary_c28_eq : aw PP gR_primary_c28 K env H = aw PP gR_primary_c17 (seqK PP gR_primary_c27 K) env H := aw_seq gR_primary_c17 gR_primary_c27
def gR_primary_c29 : AC := .seq gR_primary_c7 gR_primary_c28
@[simp] theorem gR_primary_c29_eq : aw PP gR_primary_c29 K env H = aw PP gR_primary_c7 (seqK PP gR_primary_c28 K) env H := aw_seq gR_primary_c7 gR_primary_c28
def gR_primary_c30 : AC := .seq gR_primary_c6 gR_primary_c29
@[simp] theorem gR_primary_c30_eq : aw PP gR_primary_c30 K env H = aw PP gR_primary_c6 (seqK PP gR_primary_c29 K) env H := aw_seq gR_primary_c6 gR_primary_c29
def gR_primary_c31 : AC := .seq gR_primary_c5 gR_primary_c30
@[simp] theorem gR_primary_c31_eq : aw PP gR_primary_c31 K env H = aw PP gR_primary_c5 (seqK PP gR_primary_c30 K) env H := aw_seq gR_primary_c5 gR_primary_c30
def gR_primary_c32 : AC := .seq gR_primary_c0 gR_primary_c31
@[simp] theorem gR_primary_c32_eq : aw PP gR_primary_c32 K env H = aw PP gR_primary_c0 (seqK PP gR_primary_c31 K) env H := aw_seq gR_primary_c0 gR_primary_c31
def gR_primary_ac : AC := gR_primary_c32
@[simp] theorem gR_primary_ac_eq : aw PP gR_primary_ac K env H = aw PP gR_primary_c32 K env H := Eq.trans rfl rfl
def gR_primary_rs : List ARV := [.cell 2 true 3]
abbrev gR_primary_id : Nat := 97
theorem gR_primary_comp : compF PP gR_primary_kl gR_primary_ow 1 Tryd.f97 = some (gR_primary_ac, gR_primary_rs) := by kernel_rfl
theorem gR_primary_enter {args : List AV} {H : AHeap} {post : ARes → AHeap → Prop} (ha : args.length = 1) (h : aw PP gR_primary_ac (retK gR_primary_rs post) (argEnv 0 args) H) : ACalls PP gR_primary_id args H post := .enterF Tryd.func97 PP_mix gR_primary_comp ha h

end Go.Av
