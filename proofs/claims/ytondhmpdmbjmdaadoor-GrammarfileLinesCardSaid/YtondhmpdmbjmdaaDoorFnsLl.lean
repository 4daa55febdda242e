/- Functions of the given program, compiled to the own form by program. -/
import Derived.Test.YtondhmpdmbjmdaaDoorFns9
set_option linter.unusedVariables false
set_option linter.unusedSimpArgs false
namespace Go.Av
open Go Go.Proofs
variable {K : AK} {env : Env} {H : AHeap}
/-! emendate.emendatelaw16.GrammarfileLines -/
def lF_Lines_kl : Nat → List Nat
  | 0 => [0, 2]
  | 1 => [6, 7, 8, 9, 10, 11, 12]
  | 2 => [1, 13, 14]
  | 3 => [13, 15, 16]
  | 6 => [17, 18, 19]
  | 7 => [21, 22, 26, 37]
  | 8 => [20, 23, 24, 25]
  | 9 => [26, 27, 28]
  | 10 => [29, 30, 31, 32, 33, 34, 35, 36]
  | 11 => [1, 3, 4, 5, 37]
  | 12 => [1, 3, 4, 5, 20, 38, 39, 40, 41, 42, 43, 44, 45, 46, 47, 48, 49, 50, 51, 52, 53, 54, 55, 56, 57, 58]
  | _ => []
def lF_Lines_ow : Nat → Nat → Bool := fun _ _ => false
def lF_Lines_c0 : AC := .reg [⟨some 1, none, .box (.t 0) 3 25⟩, ⟨some 2, none, .mov (.c (.bool false))⟩] [0, 2]
@[simp] theorem lF_Lines_c0_eq : aw PP lF_Lines_c0 K env H = awOps PP [⟨some 1, none, .box (.t 0) 3 25⟩, ⟨some 2, none, .mov (.c (.bool false))⟩] (regK K [0, 2]) (panK K) env H := aw_reg _ _
def lF_Lines_c1 : AC := .reg [⟨some 6, none, .ld true 3 (.t 1)⟩, ⟨some 7, none, .call (.c (.fn (.func 11) [] [])) [.t 6, .c (.int (.i64) 200)]⟩, ⟨some 8, none, .not (.t 7)⟩, ⟨some 9, none, .mov (.t 8)⟩, ⟨some 10, some (9, false), .ld true 3 (.t 1)⟩, ⟨some 11, some (9, false), .call (.c (.fn (.func 14) [] [])) [.t 10]⟩, ⟨some 12, some (9, false), .not (.t 11)⟩, ⟨some 13, none, .pick (.t 9) (.c (.bool true)) (.t 12)⟩] [6, 7, 8, 9, 10, 11, 12]
@[simp] theorem lF_Lines_c1_eq : aw PP lF_Lines_c1 K env H = awOps PP [⟨some 6, none, .ld true 3 (.t 1)⟩, ⟨some 7, none, .call (.c (.fn (.func 11) [] [])) [.t 6, .c (.int (.i64) 200)]⟩, ⟨some 8, none, .not (.t 7)⟩, ⟨some 9, none, .mov (.t 8)⟩, ⟨some 10, some (9, false), .ld true 3 (.t 1)⟩, ⟨some 11, some (9, false), .call (.c (.fn (.func 14) [] [])) [.t 10]⟩, ⟨some 12, some (9, false), .not (.t 11)⟩, ⟨some 13, none, .pick (.t 9) (.c (.bool true)) (.t 12)⟩] (regK K [6, 7, 8, 9, 10, 11, 12]) (panK K) env H := aw_reg _ _
def lF_Lines_c2 : AC := .reg [⟨some 14, none, .call (.c (.fn (.func 12) [] [])) []⟩, ⟨some 2, none, .mov (.t 14)⟩] [1, 13, 14]
@[simp] theorem lF_Lines_c2_eq : aw PP lF_Lines_c2 K env H = awOps PP [⟨some 14, none, .call (.c (.fn (.func 12) [] [])) []⟩, ⟨some 2, none, .mov (.t 14)⟩] (regK K [1, 13, 14]) (panK K) env H := aw_reg _ _
def lF_Lines_c3 : AC := .seq lF_Lines_c2 .ret
@[simp] theorem lF_Lines_c3_eq : aw PP lF_Lines_c3 K env H = aw PP lF_Lines_c2 (seqK PP .ret K) env H := aw_seq lF_Lines_c2 .ret
def lF_Lines_c4 : AC := .cond (.t 13) lF_Lines_c3 .skip
@[simp] theorem lF_Lines_c4_eq : aw PP lF_Lines_c4 K env H = condQ PP (Opd.ev env (.t 13)) lF_Lines_c3 .skip K env H := aw_cond _ lF_Lines_c3 .skip
def lF_Lines_c5 : AC := .seq lF_Lines_c1 lF_Lines_c4
@[simp] theorem lF_Lines_c5_eq : aw PP lF_Lines_c5 K env H = aw PP lF_Lines_c1 (seqK PP lF_Lines_c4 K) env H := aw_seq lF_Lines_c1 lF_Lines_c4
def lF_Lines_c6 : AC := .reg [⟨some 15, none, .ld true 3 (.t 1)⟩, ⟨some 16, none, .call (.c (.fn (.func 17) [] [])) [.t 15]⟩, ⟨some 3, none, .mov (.t 16)⟩] [13, 15, 16]
@[simp] theorem lF_Lines_c6_eq : aw PP lF_Lines_c6 K env H = awOps PP [⟨some 15, none, .ld true 3 (.t 1)⟩, ⟨some 16, none, .call (.c (.fn (.func 17) [] [])) [.t 15]⟩, ⟨some 3, none, .mov (.t 16)⟩] (regK K [13, 15, 16]) (panK K) env H := aw_reg _ _
def lF_Lines_c7 : AC := .reg [⟨some 4, none, .mov (.c (.int (.i64) 0))⟩] []
@[simp] theorem lF_Lines_c7_eq : aw PP lF_Lines_c7 K env H = awOps PP [⟨some 4, none, .mov (.c (.int (.i64) 0))⟩] (regK K []) (panK K) env H := aw_reg _ _
def lF_Lines_c8 : AC := .reg [⟨some 5, none, .mov (.c (.int (.i64) 0))⟩] []
@[simp] theorem lF_Lines_c8_eq : aw PP lF_Lines_c8 K env H = awOps PP [⟨some 5, none, .mov (.c (.int (.i64) 0))⟩] (regK K []) (panK K) env H := aw_reg _ _
def lF_Lines_c9 : AC := .reg [⟨some 17, none, .mov (.t 5)⟩, ⟨some 18, none, .mov (.t 3)⟩, ⟨some 19, none, .lens (.t 18)⟩, ⟨some 20, none, .bin (.lss) (.t 17) (.t 19)⟩] [17, 18, 19]
@[simp] theorem lF_Lines_c9_eq : aw PP lF_Lines_c9 K env H = awOps PP [⟨some 17, none, .mov (.t 5)⟩, ⟨some 18, none, .mov (.t 3)⟩, ⟨some 19, none, .lens (.t 18)⟩, ⟨some 20, none, .bin (.lss) (.t 17) (.t 19)⟩] (regK K [17, 18, 19]) (panK K) env H := aw_reg _ _
def lF_Lines_c10 : AC := .cond (.t 20) .skip (.exit 0)
@[simp] theorem lF_Lines_c10_eq : aw PP lF_Lines_c10 K env H = condQ PP (Opd.ev env (.t 20)) .skip (.exit 0) K env H := aw_cond _ .skip (.exit 0)
def lF_Lines_c11 : AC := .seq lF_Lines_c9 lF_Lines_c10
@[simp] theorem lF_Lines_c11_eq : aw PP lF_Lines_c11 K env H = aw PP lF_Lines_c9 (seqK PP lF_Lines_c10 K) env H := aw_seq lF_Lines_c9 lF_Lines_c10
def lF_Lines_c12 : AC := .reg [⟨some 23, none, .mov (.t 3)⟩, ⟨some 24, none, .mov (.t 5)⟩, ⟨some 25, none, .ix (.t 23) (.t 24)⟩, ⟨some 26, none, .bin (.eql) (.t 25) (.c (.int (.u8) 10))⟩] [20, 23, 24, 25]
@[simp] theorem lF_Lines_c12_eq : aw PP lF_Lines_c12 K env H = awOps PP [⟨some 23, none, .mov (.t 3)⟩, ⟨some 24, none, .mov (.t 5)⟩, ⟨some 25, none, .ix (.t 23) (.t 24)⟩, ⟨some 26, none, .bin (.eql) (.t 25) (.c (.int (.u8) 10))⟩] (regK K [20, 23, 24, 25]) (panK K) env H := aw_reg _ _
def lF_Lines_c13 : AC := .reg [⟨some 27, none, .mov (.t 4)⟩, ⟨some 28, none, .bin (.add) (.t 27) (.c (.int (.i64) 1))⟩, ⟨some 4, none, .mov (.t 28)⟩] [26, 27, 28]
@[simp] theorem lF_Lines_c13_eq : aw PP lF_Lines_c13 K env H = awOps PP [⟨some 27, none, .mov (.t 4)⟩, ⟨some 28, none, .bin (.add) (.t 27) (.c (.int (.i64) 1))⟩, ⟨some 4, none, .mov (.t 28)⟩] (regK K [26, 27, 28]) (panK K) env H := aw_reg _ _
def lF_Lines_c14 : AC := .reg [⟨some 29, none, .mov (.t 5)⟩, ⟨some 30, none, .bin (.eql) (.t 29) (.c (.int (.i64) 0))⟩, ⟨some 31, none, .mov (.t 30)⟩, ⟨some 32, some (31, false), .mov (.t 3)⟩, ⟨some 33, some (31, false), .mov (.t 5)⟩, ⟨some 34, some (31, false), .bin (.sub) (.t 33) (.c (.int (.i64) 1))⟩, ⟨some 35, some (31, false), .ix (.t 32) (.t 34)⟩, ⟨some 36, some (31, false), .bin (.neq) (.t 35) (.c (.int (.u8) 59))⟩, ⟨some 37, none, .pick (.t 31) (.c (.bool true)) (.t 36)⟩] [29, 30, 31, 32, 33, 34, 35, 36]
@[simp] theorem lF_Lines_c14_eq : aw PP lF_Lines_c14 K env H = awOps PP [⟨some 29, none, .mov (.t 5)⟩, ⟨some 30, none, .bin (.eql) (.t 29) (.c (.int (.i64) 0))⟩, ⟨some 31, none, .mov (.t 30)⟩, ⟨some 32, some (31, false), .mov (.t 3)⟩, ⟨some 33, some (31, false), .mov (.t 5)⟩, ⟨some 34, some (31, false), .bin (.sub) (.t 33) (.c (.int (.i64) 1))⟩, ⟨some 35, some (31, false), .ix (.t 32) (.t 34)⟩, ⟨some 36, some (31, false), .bin (.neq) (.t 35) (.c (.int (.u8) 59))⟩, ⟨some 37, none, .pick (.t 31) (.c (.bool true)) (.t 36)⟩] (regK K [29, 30, 31, 32, 33, 34, 35, 36]) (panK K) env H := aw_reg _ _
def lF_Lines_c15 : AC := .reg [⟨some 2, none, .mov (.c (.bool false))⟩] [1, 3, 4, 5, 37]
@[simp] theorem lF_Lines_c15_eq : aw PP lF_Lines_c15 K env H = awOps PP [⟨some 2, none, .mov (.c (.bool false))⟩] (regK K [1, 3, 4, 5, 37]) (panK K) env H := aw_reg _ _
def lF_Lines_c16 : AC := .seq lF_Lines_c15 .ret
@[simp] theorem lF_Lines_c16_eq : aw PP lF_Lines_c16 K env H = aw PP lF_Lines_c15 (seqK PP .ret K) env H := aw_seq lF_Lines_c15 .ret
def lF_Lines_c17 : AC := .cond (.t 37) lF_Lines_c16 .skip
@[simp] theorem lF_Lines_c17_eq : aw PP lF_Lines_c17 K env H = condQ PP (Opd.ev env (.t 37)) lF_Lines_c16 .skip K env H := aw_cond _ lF_Lines_c16 .skip
def lF_Lines_c18 : AC := .seq lF_Lines_c14 lF_Lines_c17
@[simp] theorem lF_Lines_c18_eq : aw PP lF_Lines_c18 K env H = aw PP lF_Lines_c14 (seqK PP lF_Lines_c17 K) env H := aw_seq lF_Lines_c14 lF_Lines_c17
def lF_Lines_c19 : AC := .seq lF_Lines_c13 lF_Lines_c18
@[simp] theorem lF_Lines_c19_eq : aw PP lF_Lines_c19 K env H = aw PP lF_Lines_c13 (seqK PP lF_Lines_c18 K) env H := aw_seq lF_Lines_c13 lF_Lines_c18
def lF_Lines_c20 : AC := .cond (.t 26) lF_Lines_c19 .skip
@[simp] theorem lF_Lines_c20_eq : aw PP lF_Lines_c20 K env H = condQ PP (Opd.ev env (.t 26)) lF_Lines_c19 .skip K env H := aw_cond _ lF_Lines_c19 .skip
def lF_Lines_c21 : AC := .seq lF_Lines_c12 lF_Lines_c20
@[simp] theorem lF_Lines_c21_eq : aw PP lF_Lines_c21 K env H = aw PP lF_Lines_c12 (seqK PP lF_Lines_c20 K) env H := aw_seq lF_Lines_c12 lF_Lines_c20
def lF_Lines_c22 : AC := .block 1 lF_Lines_c21
@[simp] theorem lF_Lines_c22_eq : aw PP lF_Lines_c22 K env H = aw PP lF_Lines_c21 (blockK 1 K) env H := aw_block _ lF_Lines_c21
def lF_Lines_c23 : AC := .reg [⟨some 21, none, .mov (.t 5)⟩, ⟨some 22, none, .bin (.add) (.t 21) (.c (.int (.i64) 1))⟩, ⟨some 5, none, .mov (.t 22)⟩] [21, 22, 26, 37]
@[simp] theorem lF_Lines_c23_eq : aw PP lF_Lines_c23 K env H = awOps PP [⟨some 21, none, .mov (.t 5)⟩, ⟨some 22, none, .bin (.add) (.t 21) (.c (.int (.i64) 1))⟩, ⟨some 5, none, .mov (.t 22)⟩] (regK K [21, 22, 26, 37]) (panK K) env H := aw_reg _ _
def lF_Lines_c24 : AC := .seq lF_Lines_c22 lF_Lines_c23
@[simp] theorem lF_Lines_c24_eq : aw PP lF_Lines_c24 K env H = aw PP lF_Lines_c22 (seqK PP lF_Lines_c23 K) env H := aw_seq lF_Lines_c22 lF_Lines_c23
def lF_Lines_c25 : AC := .seq lF_Lines_c11 lF_Lines_c24
@[simp] theorem lF_Lines_c25_eq : aw PP lF_Lines_c25 K env H = aw PP lF_Lines_c11 (seqK PP lF_Lines_c24 K) env H := aw_seq lF_Lines_c11 lF_Lines_c24
def lF_Lines_c26 : AC := .loop lF_Lines_c25
def lF_Lines_c27 : AC := .block 0 lF_Lines_c26
@[simp] theorem lF_Lines_c27_eq : aw PP lF_Lines_c27 K env H = aw PP lF_Lines_c26 (blockK 0 K) env H := aw_block _ lF_Lines_c26
def lF_Lines_c28 : AC := .seq lF_Lines_c8 lF_Lines_c27
@[simp] theorem lF_Lines_c28_eq : aw PP lF_Lines_c28 K env H = aw PP lF_Lines_c8 (seqK PP lF_Lines_c27 K) env H := aw_seq lF_Lines_c8 lF_Lines_c27
def lF_Lines_c29 : AC := .reg [⟨some 38, none, .call (.c (.fn (.func 12) [] [])) []⟩, ⟨some 39, none, .mov (.t 38)⟩, ⟨some 40, some (39, true), .mov (.t 4)⟩, ⟨some 41, some (39, true), .fa 1 1 (.t 1)⟩, ⟨some 42, some (39, true), .ld false 1 (.t 41)⟩, ⟨some 43, some (39, true), .lenl (.t 42)⟩, ⟨some 44, some (39, true), .bin (.add) (.c (.int (.i64) 1)) (.t 43)⟩, ⟨some 45, some (39, true), .fa 2 2 (.t 1)⟩, ⟨some 46, some (39, true), .ld false 1 (.t 45)⟩, ⟨some 47, some (39, true), .lenl (.t 46)⟩, ⟨some 48, some (39, true), .bin (.add) (.t 44) (.t 47)⟩, ⟨some 49, some (39, true), .bin (.eql) (.t 40) (.t 48)⟩, ⟨some 50, none, .pick (.t 39) (.t 49) (.c (.bool false))⟩, ⟨some 51, none, .mov (.t 50)⟩, ⟨some 52, some (51, true), .mov (.t 3)⟩, ⟨some 53, some (51, true), .mov (.t 3)⟩, ⟨some 54, some (51, true), .lens (.t 53)⟩, ⟨some 55, some (51, true), .bin (.sub) (.t 54) (.c (.int (.i64) 1))⟩, ⟨some 56, some (51, true), .ix (.t 52) (.t 55)⟩, ⟨some 57, some (51, true), .bin (.eql) (.t 56) (.c (.int (.u8) 10))⟩, ⟨some 58, none, .pick (.t 51) (.t 57) (.c (.bool false))⟩, ⟨some 2, none, .mov (.t 58)⟩] [1, 3, 4, 5, 20, 38, 39, 40, 41, 42, 43, 44, 45, 46, 47, 48, 49, 50, 51, 52, 53, 54, 55, 56, 57, 58]
@[simp] theorem lF_Lines_c29_eq : aw PP lF_Lines_c29 K env H = awOps PP [⟨some 38, none, .call (.c (.fn (.func 12) [] [])) []⟩, ⟨some 39, none, .mov (.t 38)⟩, ⟨some 40, some (39, true), .mov (.t 4)⟩, ⟨some 41, some (39, true), .fa 1 1 (.t 1)⟩, ⟨some 42, some (39, true), .ld false 1 (.t 41)⟩, ⟨some 43, some (39, true), .lenl (.t 42)⟩, ⟨some 44, some (39, true), .bin (.add) (.c (.int (.i64) 1)) (.t 43)⟩, ⟨some 45, some (39, true), .fa 2 2 (.t 1)⟩, ⟨some 46, some (39, true), .ld false 1 (.t 45)⟩, ⟨some 47, some (39, true), .lenl (.t 46)⟩, ⟨some 48, some (39, true), .bin (.add) (.t 44) (.t 47)⟩, ⟨some 49, some (39, true), .bin (.eql) (.t 40) (.t 48)⟩, ⟨some 50, none, .pick (.t 39) (.t 49) (.c (.bool false))⟩, ⟨some 51, none, .mov (.t 50)⟩, ⟨some 52, some (51, true), .mov (.t 3)⟩, ⟨some 53, some (51, true), .mov (.t 3)⟩, ⟨some 54, some (51, true), .lens (.t 53)⟩, ⟨some 55, some (51, true), .bin (.sub) (.t 54) (.c (.int (.i64) 1))⟩, ⟨some 56, some (51, true), .ix (.t 52) (.t 55)⟩, ⟨some 57, some (51, true), .bin (.eql) (.t 56) (.c (.int (.u8) 10))⟩, ⟨some 58, none, .pick (.t 51) (.t 57) (.c (.bool false))⟩, ⟨some 2, none, .mov (.t 58)⟩] (regK K [1, 3, 4, 5, 20, 38, 39, 40, 41, 42, 43, 44, 45, 46, 47, 48, 49, 50, 51, 52, 53, 54, 55, 56, 57, 58]) (panK K) env H := aw_reg _ _
def lF_Lines_c30 : AC := .seq lF_Lines_c29 .ret
@[simp] theorem lF_Lines_c30_eq : aw PP lF_Lines_c30 K env H = aw PP lF_Lines_c29 (seqK PP .ret K) env H := aw_seq lF_Lines_c29 .ret
def lF_Lines_c31 : AC := .seq lF_Lines_c28 lF_Lines_c30
@[simp] theorem lF_Lines_c31_eq : aw PP lF_Lines_c31 K env H = aw PP lF_Lines_c28 (seqK PP lF_Lines_c30 K) env H := aw_seq lF_Lines_c28 lF_Lines_c30
def lF_Lines_c32 : AC := .seq lF_Lines_c7 lF_Lines_c31
@[simp] theorem lF_Lines_c32_eq : aw PP lF_Lines_c32 K env H = aw PP lF_Lines_c7 (seqK PP lF_Lines_c31 K) env H := aw_seq lF_Lines_c7 lF_Lines_c31
def lF_Lines_c33 : AC := .seq lF_Lines_c6 lF_Lines_c32
@[simp] theorem lF_Lines_c33_eq : aw PP lF_Lines_c33 K env H = aw PP lF_Lines_c6 (seqK PP lF_Lines_c32 K) env H := aw_seq lF_Lines_c6 lF_Lines_c32
def lF_Lines_c34 : AC := .seq lF_Lines_c5 lF_Lines_c33
@[simp] theorem lF_Lines_c34_eq : aw PP lF_Lines_c34 K env H = aw PP lF_Lines_c5 (seqK PP lF_Lines_c33 K) env H := aw_seq lF_Lines_c5 lF_Lines_c33
def lF_Lines_c35 : AC := .seq lF_Lines_c0 lF_Lines_c34
@[simp] theorem lF_Lines_c35_eq : aw PP lF_Lines_c35 K env H = aw PP lF_Lines_c0 (seqK PP lF_Lines_c34 K) env H := aw_seq lF_Lines_c0 lF_Lines_c34
def lF_Lines_ac : AC := lF_Lines_c35
@[simp] theorem lF_Lines_ac_eq : aw PP lF_Lines_ac K env H = aw PP lF_Lines_c35 K env H := Eq.trans rfl rfl
def lF_Lines_rs : List ARV := [.tmp 2]
abbrev lF_Lines_id : Nat := 7
theorem lF_Lines_comp : compF PP lF_Lines_kl lF_Lines_ow 1 Tryd.f7 = some (lF_Lines_ac, lF_Lines_rs) := by kernel_rfl
theorem lF_Lines_enter {args : List AV} {H : AHeap} {post : ARes → AHeap → Prop} (ha : args.length = 1) (h : aw PP lF_Lines_ac (retK lF_Lines_rs post) (argEnv 0 args) H) : ACalls PP lF_Lines_id args H post := .enterF Tryd.func7 PP_mix lF_Lines_comp ha h

end Go.Av
