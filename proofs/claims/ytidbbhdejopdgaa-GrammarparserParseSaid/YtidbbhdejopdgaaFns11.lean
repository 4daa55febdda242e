/- Functions of the given program, compiled to the own form by program. -/
import Derived.Test.YtidbbhdejopdgaaProg
import Derived.KernelRfl
import Derived.Test.YtidbbhdejopdgaaAvF
import Derived.Test.YtidbbhdejopdgaaFns1
set_option linter.unusedVariables false
set_option linter.unusedSimpArgs false
namespace Go.Av
open Go Go.Proofs
/-! emendate.emendateref16.Equal -/
def ref16_Equal_kl : Nat → List Nat
  | 0 => [0, 1, 4]
  | 1 => [9, 10, 11, 12, 13, 14, 15, 16, 17, 18, 19, 20, 21, 22, 23, 24, 25, 26, 27, 28, 29]
  | 2 => [2, 3, 30]
  | 3 => [30]
  | 4 => [31, 32, 33, 34]
  | 5 => [6, 7, 8, 36, 37, 66]
  | 6 => [35, 38, 39, 40, 41, 42, 43, 44, 45, 46, 47]
  | 7 => [48, 49, 50, 51, 52, 53, 54, 55, 56, 57, 58, 59, 60]
  | 8 => [2, 3, 5, 6, 7, 61]
  | 9 => [61]
  | 10 => [62, 63, 64, 65]
  | 11 => [67, 68, 97]
  | 12 => [66, 69, 70, 71, 72, 73, 74, 75, 76, 77, 78, 79, 80, 81, 82, 83, 84, 85, 86, 87, 88, 89, 90, 91, 92, 93, 94, 95, 96]
  | 13 => [2, 3, 5, 6, 7, 8, 97]
  | 14 => [2, 3, 5, 35]
  | _ => []
def ref16_Equal_ow : Nat → Nat → Bool := fun _ _ => false
def ref16_Equal_c0 : AC := .reg [⟨some 2, none, .box (.t 0) 3 26⟩, ⟨some 3, none, .box (.t 1) 3 26⟩, ⟨some 4, none, .mov (.c (.bool false))⟩] [0, 1, 4]
@[simp] theorem ref16_Equal_c0_eq {K : AK} {env : Env} {H : AHeap} : aw PP ref16_Equal_c0 K env H = awOps PP [⟨some 2, none, .box (.t 0) 3 26⟩, ⟨some 3, none, .box (.t 1) 3 26⟩, ⟨some 4, none, .mov (.c (.bool false))⟩] (regK K [0, 1, 4]) (panK K) env H := aw_reg _ _
def ref16_Equal_c1 : AC := .reg [⟨some 9, none, .fa 0 0 (.t 2)⟩, ⟨some 10, none, .ld false 1 (.t 9)⟩, ⟨some 11, none, .fa 0 0 (.t 3)⟩, ⟨some 12, none, .ld false 1 (.t 11)⟩, ⟨some 13, none, .bin (.neq) (.t 10) (.t 12)⟩, ⟨some 14, none, .mov (.t 13)⟩, ⟨some 15, some (14, false), .fa 1 1 (.t 2)⟩, ⟨some 16, some (14, false), .ld false 1 (.t 15)⟩, ⟨some 17, some (14, false), .fa 1 1 (.t 3)⟩, ⟨some 18, some (14, false), .ld false 1 (.t 17)⟩, ⟨some 19, some (14, false), .call (.c (.fn (.func 32) [] [])) [.t 16, .t 18]⟩, ⟨some 20, some (14, false), .not (.t 19)⟩, ⟨some 21, none, .pick (.t 14) (.c (.bool true)) (.t 20)⟩, ⟨some 22, none, .mov (.t 21)⟩, ⟨some 23, some (22, false), .fa 2 2 (.t 2)⟩, ⟨some 24, some (22, false), .ld false 1 (.t 23)⟩, ⟨some 25, some (22, false), .lenl (.t 24)⟩, ⟨some 26, some (22, false), .fa 2 2 (.t 3)⟩, ⟨some 27, some (22, false), .ld false 1 (.t 26)⟩, ⟨some 28, some (22, false), .lenl (.t 27)⟩, ⟨some 29, some (22, false), .bin (.neq) (.t 25) (.t 28)⟩, ⟨some 30, none, .pick (.t 22) (.c (.bool true)) (.t 29)⟩] [9, 10, 11, 12, 13, 14, 15, 16, 17, 18, 19, 20, 21, 22, 23, 24, 25, 26, 27, 28, 29]
@[simp] theorem ref16_Equal_c1_eq {K : AK} {env : Env} {H : AHeap} : aw PP ref16_Equal_c1 K env H = awOps PP [⟨some 9, none, .fa 0 0 (.t 2)⟩, ⟨some 10, none, .ld false 1 (.t 9)⟩, ⟨some 11, none, .fa 0 0 (.t 3)⟩, ⟨some 12, none, .ld false 1 (.t 11)⟩, ⟨some 13, none, .bin (.neq) (.t 10) (.t 12)⟩, ⟨some 14, none, .mov (.t 13)⟩, ⟨some 15, some (14, false), .fa 1 1 (.t 2)⟩, ⟨some 16, some (14, false), .ld false 1 (.t 15)⟩, ⟨some 17, some (14, false), .fa 1 1 (.t 3)⟩, ⟨some 18, some (14, false), .ld false 1 (.t 17)⟩, ⟨some 19, some (14, false), .call (.c (.fn (.func 32) [] [])) [.t 16, .t 18]⟩, ⟨some 20, some (14, false), .not (.t 19)⟩, ⟨some 21, none, .pick (.t 14) (.c (.bool true)) (.t 20)⟩, ⟨some 22, none, .mov (.t 21)⟩, ⟨some 23, some (22, false), .fa 2 2 (.t 2)⟩, ⟨some 24, some (22, false), .ld false 1 (.t 23)⟩, ⟨some 25, some (22, false), .lenl (.t 24)⟩, ⟨some 26, some (22, false), .fa 2 2 (.t 3)⟩, ⟨some 27, some (22, false), .ld false 1 (.t 26)⟩, ⟨some 28, some (22, false), .lenl (.t 27)⟩, ⟨some 29, some (22, false), .bin (.neq) (.t 25) (.t 28)⟩, ⟨some 30, none, .pick (.t 22) (.c (.bool true)) (.t 29)⟩] (regK K [9, 10, 11, 12, 13, 14, 15, 16, 17, 18, 19, 20, 21, 22, 23, 24, 25, 26, 27, 28, 29]) (panK K) env H := aw_reg _ _
def ref16_Equal_c2 : AC := .reg [⟨some 4, none, .mov (.c (.bool false))⟩] [2, 3, 30]
@[simp] theorem ref16_Equal_c2_eq {K : AK} {env : Env} {H : AHeap} : aw PP ref16_Equal_c2 K env H = awOps PP [⟨some 4, none, .mov (.c (.bool false))⟩] (regK K [2, 3, 30]) (panK K) env H := aw_reg _ _
def ref16_Equal_c3 : AC := .seq ref16_Equal_c2 .ret
@[simp] theorem ref16_Equal_c3_eq {K : AK} {env : Env} {H : AHeap} : aw PP ref16_Equal_c3 K env H = aw PP ref16_Equal_c2 (seqK PP .ret K) env H := aw_seq ref16_Equal_c2 .ret
def ref16_Equal_c4 : AC := .cond (.t 30) ref16_Equal_c3 .skip
@[simp] theorem ref16_Equal_c4_eq {K : AK} {env : Env} {H : AHeap} : aw PP ref16_Equal_c4 K env H = condQ PP (Opd.ev env (.t 30)) ref16_Equal_c3 .skip K env H := aw_cond _ ref16_Equal_c3 .skip
def ref16_Equal_c5 : AC := .seq ref16_Equal_c1 ref16_Equal_c4
@[simp] theorem ref16_Equal_c5_eq {K : AK} {env : Env} {H : AHeap} : aw PP ref16_Equal_c5 K env H = aw PP ref16_Equal_c1 (seqK PP ref16_Equal_c4 K) env H := aw_seq ref16_Equal_c1 ref16_Equal_c4
def ref16_Equal_c6 : AC := .reg [⟨some 5, none, .mov (.c (.int (.i64) 0))⟩] [30]
@[simp] theorem ref16_Equal_c6_eq {K : AK} {env : Env} {H : AHeap} : aw PP ref16_Equal_c6 K env H = awOps PP [⟨some 5, none, .mov (.c (.int (.i64) 0))⟩] (regK K [30]) (panK K) env H := aw_reg _ _
def ref16_Equal_c7 : AC := .reg [⟨some 31, none, .mov (.t 5)⟩, ⟨some 32, none, .fa 2 2 (.t 2)⟩, ⟨some 33, none, .ld false 1 (.t 32)⟩, ⟨some 34, none, .lenl (.t 33)⟩, ⟨some 35, none, .bin (.lss) (.t 31) (.t 34)⟩] [31, 32, 33, 34]
@[simp] theorem ref16_Equal_c7_eq {K : AK} {env : Env} {H : AHeap} : aw PP ref16_Equal_c7 K env H = awOps PP [⟨some 31, none, .mov (.t 5)⟩, ⟨some 32, none, .fa 2 2 (.t 2)⟩, ⟨some 33, none, .ld false 1 (.t 32)⟩, ⟨some 34, none, .lenl (.t 33)⟩, ⟨some 35, none, .bin (.lss) (.t 31) (.t 34)⟩] (regK K [31, 32, 33, 34]) (panK K) env H := aw_reg _ _
def ref16_Equal_c8 : AC := .cond (.t 35) .skip (.exit 0)
@[simp] theorem ref16_Equal_c8_eq {K : AK} {env : Env} {H : AHeap} : aw PP ref16_Equal_c8 K env H = condQ PP (Opd.ev env (.t 35)) .skip (.exit 0) K env H := aw_cond _ .skip (.exit 0)
def ref16_Equal_c9 : AC := .seq ref16_Equal_c7 ref16_Equal_c8
@[simp] theorem ref16_Equal_c9_eq {K : AK} {env : Env} {H : AHeap} : aw PP ref16_Equal_c9 K env H = aw PP ref16_Equal_c7 (seqK PP ref16_Equal_c8 K) env H := aw_seq ref16_Equal_c7 ref16_Equal_c8
def ref16_Equal_c10_ops : List (AI × List Nat) := [(⟨some 38, none, .fa 2 2 (.t 2)⟩, []), (⟨some 39, none, .ld false 1 (.t 38)⟩, [0]), (⟨some 40, none, .mov (.t 5)⟩, []), (⟨some 41, none, .ixa 2 (.t 39) (.t 40)⟩, [1, 2]), (⟨some 42, none, .ld true 2 (.t 41)⟩, [3]), (⟨some 43, none, .fa 2 2 (.t 3)⟩, []), (⟨some 44, none, .ld false 1 (.t 43)⟩, [5]), (⟨some 45, none, .mov (.t 5)⟩, []), (⟨some 46, none, .ixa 2 (.t 44) (.t 45)⟩, [6, 7]), (⟨some 47, none, .ld true 2 (.t 46)⟩, [8]), (⟨some 6, none, .alloc (.struct [.str [], .nils]) 44⟩, []), (⟨some 7, none, .alloc (.struct [.str [], .nils]) 44⟩, []), (⟨none, none, .st 2 (.t 6) (.t 42)⟩, [10, 4, 0, 1, 2, 3, 4, 10, 11]), (⟨none, none, .st 2 (.t 7) (.t 47)⟩, [11, 9, 12, 0, 1, 2, 3, 4, 5, 6, 7, 8, 9, 10, 11, 12])]
def ref16_Equal_c10 : AC := .dreg ref16_Equal_c10_ops [35, 38, 39, 40, 41, 42, 43, 44, 45, 46, 47]
theorem ref16_Equal_c10_okF : lexOKF ref16_Equal_c10_ops 13 (fun i => [10, 11, 12, 13].contains i) = true := by kernel_rfl
theorem ref16_Equal_c10_lexF {K : AK} {env : Env} {H : AHeap} (B : List Nat) (h : awLexF PP 13 (fun i => [10, 11, 12, 13].contains i) B H (regK K [35, 38, 39, 40, 41, 42, 43, 44, 45, 46, 47]) (panK K) [(0, ⟨some 38, none, .fa 2 2 (.t 2)⟩), (1, ⟨some 39, none, .ld false 1 (.t 38)⟩), (2, ⟨some 40, none, .mov (.t 5)⟩), (3, ⟨some 41, none, .ixa 2 (.t 39) (.t 40)⟩), (4, ⟨some 42, none, .ld true 2 (.t 41)⟩), (5, ⟨some 43, none, .fa 2 2 (.t 3)⟩), (6, ⟨some 44, none, .ld false 1 (.t 43)⟩), (7, ⟨some 45, none, .mov (.t 5)⟩), (8, ⟨some 46, none, .ixa 2 (.t 44) (.t 45)⟩), (9, ⟨some 47, none, .ld true 2 (.t 46)⟩), (10, ⟨some 6, none, .alloc (.struct [.str [], .nils]) 44⟩), (11, ⟨some 7, none, .alloc (.struct [.str [], .nils]) 44⟩), (12, ⟨none, none, .st 2 (.t 6) (.t 42)⟩), (13, ⟨none, none, .st 2 (.t 7) (.t 47)⟩)] env H) : aw PP ref16_Equal_c10 K env H := aw_dreg_lexF _ _ B ref16_Equal_c10_okF h
def ref16_Equal_c11 : AC := .reg [⟨some 48, none, .fa 0 0 (.t 6)⟩, ⟨some 49, none, .ld false 1 (.t 48)⟩, ⟨some 50, none, .fa 0 0 (.t 7)⟩, ⟨some 51, none, .ld false 1 (.t 50)⟩, ⟨some 52, none, .bin (.neq) (.t 49) (.t 51)⟩, ⟨some 53, none, .mov (.t 52)⟩, ⟨some 54, some (53, false), .fa 1 1 (.t 6)⟩, ⟨some 55, some (53, false), .ld false 1 (.t 54)⟩, ⟨some 56, some (53, false), .lenl (.t 55)⟩, ⟨some 57, some (53, false), .fa 1 1 (.t 7)⟩, ⟨some 58, some (53, false), .ld false 1 (.t 57)⟩, ⟨some 59, some (53, false), .lenl (.t 58)⟩, ⟨some 60, some (53, false), .bin (.neq) (.t 56) (.t 59)⟩, ⟨some 61, none, .pick (.t 53) (.c (.bool true)) (.t 60)⟩] [48, 49, 50, 51, 52, 53, 54, 55, 56, 57, 58, 59, 60]
@[simp] theorem ref16_Equal_c11_eq {K : AK} {env : Env} {H : AHeap} : aw PP ref16_Equal_c11 K env H = awOps PP [⟨some 48, none, .fa 0 0 (.t 6)⟩, ⟨some 49, none, .ld false 1 (.t 48)⟩, ⟨some 50, none, .fa 0 0 (.t 7)⟩, ⟨some 51, none, .ld false 1 (.t 50)⟩, ⟨some 52, none, .bin (.neq) (.t 49) (.t 51)⟩, ⟨some 53, none, .mov (.t 52)⟩, ⟨some 54, some (53, false), .fa 1 1 (.t 6)⟩, ⟨some 55, some (53, false), .ld false 1 (.t 54)⟩, ⟨some 56, some (53, false), .lenl (.t 55)⟩, ⟨some 57, some (53, false), .fa 1 1 (.t 7)⟩, ⟨some 58, some (53, false), .ld false 1 (.t 57)⟩, ⟨some 59, some (53, false), .lenl (.t 58)⟩, ⟨some 60, some (53, false), .bin (.neq) (.t 56) (.t 59)⟩, ⟨some 61, none, .pick (.t 53) (.c (.bool true)) (.t 60)⟩] (regK K [48, 49, 50, 51, 52, 53, 54, 55, 56, 57, 58, 59, 60]) (panK K) env H := aw_reg _ _
def ref16_Equal_c12 : AC := .reg [⟨some 4, none, .mov (.c (.bool false))⟩] [2, 3, 5, 6, 7, 61]
@[simp] theorem ref16_Equal_c12_eq {K : AK} {env : Env} {H : AHeap} : aw PP ref16_Equal_c12 K env H = awOps PP [⟨some 4, none, .mov (.c (.bool false))⟩] (regK K [2, 3, 5, 6, 7, 61]) (panK K) env H := aw_reg _ _
def ref16_Equal_c13 : AC := .seq ref16_Equal_c12 .ret
@[simp] theorem ref16_Equal_c13_eq {K : AK} {env : Env} {H : AHeap} : aw PP ref16_Equal_c13 K env H = aw PP ref16_Equal_c12 (seqK PP .ret K) env H := aw_seq ref16_Equal_c12 .ret
def ref16_Equal_c14 : AC := .cond (.t 61) ref16_Equal_c13 .skip
@[simp] theorem ref16_Equal_c14_eq {K : AK} {env : Env} {H : AHeap} : aw PP ref16_Equal_c14 K env H = condQ PP (Opd.ev env (.t 61)) ref16_Equal_c13 .skip K env H := aw_cond _ ref16_Equal_c13 .skip
def ref16_Equal_c15 : AC := .seq ref16_Equal_c11 ref16_Equal_c14
@[simp] theorem ref16_Equal_c15_eq {K : AK} {env : Env} {H : AHeap} : aw PP ref16_Equal_c15 K env H = aw PP ref16_Equal_c11 (seqK PP ref16_Equal_c14 K) env H := aw_seq ref16_Equal_c11 ref16_Equal_c14
def ref16_Equal_c16 : AC := .reg [⟨some 8, none, .mov (.c (.int (.i64) 0))⟩] [61]
@[simp] theorem ref16_Equal_c16_eq {K : AK} {env : Env} {H : AHeap} : aw PP ref16_Equal_c16 K env H = awOps PP [⟨some 8, none, .mov (.c (.int (.i64) 0))⟩] (regK K [61]) (panK K) env H := aw_reg _ _
def ref16_Equal_c17 : AC := .reg [⟨some 62, none, .mov (.t 8)⟩, ⟨some 63, none, .fa 1 1 (.t 6)⟩, ⟨some 64, none, .ld false 1 (.t 63)⟩, ⟨some 65, none, .lenl (.t 64)⟩, ⟨some 66, none, .bin (.lss) (.t 62) (.t 65)⟩] [62, 63, 64, 65]
@[simp] theorem ref16_Equal_c17_eq {K : AK} {env : Env} {H : AHeap} : aw PP ref16_Equal_c17 K env H = awOps PP [⟨some 62, none, .mov (.t 8)⟩, ⟨some 63, none, .fa 1 1 (.t 6)⟩, ⟨some 64, none, .ld false 1 (.t 63)⟩, ⟨some 65, none, .lenl (.t 64)⟩, ⟨some 66, none, .bin (.lss) (.t 62) (.t 65)⟩] (regK K [62, 63, 64, 65]) (panK K) env H := aw_reg _ _
def ref16_Equal_c18 : AC := .cond (.t 66) .skip (.exit 2)
@[simp] theorem ref16_Equal_c18_eq {K : AK} {env : Env} {H : AHeap} : aw PP ref16_Equal_c18 K env H = condQ PP (Opd.ev env (.t 66)) .skip (.exit 2) K env H := aw_cond _ .skip (.exit 2)
def ref16_Equal_c19 : AC := .seq ref16_Equal_c17 ref16_Equal_c18
@[simp] theorem ref16_Equal_c19_eq {K : AK} {env : Env} {H : AHeap} : aw PP ref16_Equal_c19 K env H = aw PP ref16_Equal_c17 (seqK PP ref16_Equal_c18 K) env H := aw_seq ref16_Equal_c17 ref16_Equal_c18
def ref16_Equal_c20_ops : List (AI × List Nat) := [(⟨some 69, none, .fa 1 1 (.t 6)⟩, []), (⟨some 70, none, .ld false 1 (.t 69)⟩, [0]), (⟨some 71, none, .mov (.t 8)⟩, []), (⟨some 72, none, .ixa 4 (.t 70) (.t 71)⟩, [1, 2]), (⟨some 73, none, .fa 1 3 (.t 72)⟩, [3]), (⟨some 74, none, .ld false 1 (.t 73)⟩, [4]), (⟨some 75, none, .fa 1 1 (.t 7)⟩, []), (⟨some 76, none, .ld false 1 (.t 75)⟩, [6]), (⟨some 77, none, .mov (.t 8)⟩, []), (⟨some 78, none, .ixa 4 (.t 76) (.t 77)⟩, [7, 8]), (⟨some 79, none, .fa 1 3 (.t 78)⟩, [9]), (⟨some 80, none, .ld false 1 (.t 79)⟩, [10]), (⟨some 81, none, .bin (.neq) (.t 74) (.t 80)⟩, [5, 11]), (⟨some 82, none, .mov (.t 81)⟩, [12]), (⟨some 83, some (82, false), .fa 1 1 (.t 6)⟩, [13]), (⟨some 84, some (82, false), .ld false 1 (.t 83)⟩, [14, 13]), (⟨some 85, some (82, false), .mov (.t 8)⟩, [13]), (⟨some 86, some (82, false), .ixa 4 (.t 84) (.t 85)⟩, [15, 16, 13]), (⟨some 87, some (82, false), .fa 0 0 (.t 86)⟩, [17, 13]), (⟨some 88, some (82, false), .ld true 3 (.t 87)⟩, [18, 13]), (⟨some 89, some (82, false), .fa 1 1 (.t 7)⟩, [13]), (⟨some 90, some (82, false), .ld false 1 (.t 89)⟩, [20, 13]), (⟨some 91, some (82, false), .mov (.t 8)⟩, [13]), (⟨some 92, some (82, false), .ixa 4 (.t 90) (.t 91)⟩, [21, 22, 13]), (⟨some 93, some (82, false), .fa 0 0 (.t 92)⟩, [23, 13]), (⟨some 94, some (82, false), .ld true 3 (.t 93)⟩, [24, 13]), (⟨some 95, some (82, false), .call (.c (.fn (.func 33) [] [])) [.t 88, .t 94]⟩, [19, 25, 13, 13]), (⟨some 96, some (82, false), .not (.t 95)⟩, [26, 13]), (⟨some 97, none, .pick (.t 82) (.c (.bool true)) (.t 96)⟩, [13, 27])]
def ref16_Equal_c20 : AC := .dreg ref16_Equal_c20_ops [66, 69, 70, 71, 72, 73, 74, 75, 76, 77, 78, 79, 80, 81, 82, 83, 84, 85, 86, 87, 88, 89, 90, 91, 92, 93, 94, 95, 96]
theorem ref16_Equal_c20_ok : lexOK ref16_Equal_c20_ops (fun i => [].contains i) = true := by kernel_rfl
theorem ref16_Equal_c20_lex {K : AK} {env : Env} {H : AHeap} (h : awLex PP (fun i => [].contains i) (regK K [66, 69, 70, 71, 72, 73, 74, 75, 76, 77, 78, 79, 80, 81, 82, 83, 84, 85, 86, 87, 88, 89, 90, 91, 92, 93, 94, 95, 96]) (panK K) [(0, ⟨some 69, none, .fa 1 1 (.t 6)⟩), (1, ⟨some 70, none, .ld false 1 (.t 69)⟩), (2, ⟨some 71, none, .mov (.t 8)⟩), (3, ⟨some 72, none, .ixa 4 (.t 70) (.t 71)⟩), (4, ⟨some 73, none, .fa 1 3 (.t 72)⟩), (5, ⟨some 74, none, .ld false 1 (.t 73)⟩), (6, ⟨some 75, none, .fa 1 1 (.t 7)⟩), (7, ⟨some 76, none, .ld false 1 (.t 75)⟩), (8, ⟨some 77, none, .mov (.t 8)⟩), (9, ⟨some 78, none, .ixa 4 (.t 76) (.t 77)⟩), (10, ⟨some 79, none, .fa 1 3 (.t 78)⟩), (11, ⟨some 80, none, .ld false 1 (.t 79)⟩), (12, ⟨some 81, none, .bin (.neq) (.t 74) (.t 80)⟩), (13, ⟨some 82, none, .mov (.t 81)⟩), (14, ⟨some 83, some (82, false), .fa 1 1 (.t 6)⟩), (15, ⟨some 84, some (82, false), .ld false 1 (.t 83)⟩), (16, ⟨some 85, some (82, false), .mov (.t 8)⟩), (17, ⟨some 86, some (82, false), .ixa 4 (.t 84) (.t 85)⟩), (18, ⟨some 87, some (82, false), .fa 0 0 (.t 86)⟩), (19, ⟨some 88, some (82, false), .ld true 3 (.t 87)⟩), (20, ⟨some 89, some (82, false), .fa 1 1 (.t 7)⟩), (21, ⟨some 90, some (82, false), .ld false 1 (.t 89)⟩), (22, ⟨some 91, some (82, false), .mov (.t 8)⟩), (23, ⟨some 92, some (82, false), .ixa 4 (.t 90) (.t 91)⟩), (24, ⟨some 93, some (82, false), .fa 0 0 (.t 92)⟩), (25, ⟨some 94, some (82, false), .ld true 3 (.t 93)⟩), (26, ⟨some 95, some (82, false), .call (.c (.fn (.func 33) [] [])) [.t 88, .t 94]⟩), (27, ⟨some 96, some (82, false), .not (.t 95)⟩), (28, ⟨some 97, none, .pick (.t 82) (.c (.bool true)) (.t 96)⟩)] env H) : aw PP ref16_Equal_c20 K env H := aw_dreg_lex _ ref16_Equal_c20_ok h
theorem ref16_Equal_c20_okF : lexOKF ref16_Equal_c20_ops 26 (fun i => [26].contains i) = true := by kernel_rfl
theorem ref16_Equal_c20_lexF {K : AK} {env : Env} {H : AHeap} (B : List Nat) (h : awLexF PP 26 (fun i => [26].contains i) B H (regK K [66, 69, 70, 71, 72, 73, 74, 75, 76, 77, 78, 79, 80, 81, 82, 83, 84, 85, 86, 87, 88, 89, 90, 91, 92, 93, 94, 95, 96]) (panK K) [(0, ⟨some 69, none, .fa 1 1 (.t 6)⟩), (1, ⟨some 70, none, .ld false 1 (.t 69)⟩), (2, ⟨some 71, none, .mov (.t 8)⟩), (3, ⟨some 72, none, .ixa 4 (.t 70) (.t 71)⟩), (4, ⟨some 73, none, .fa 1 3 (.t 72)⟩), (5, ⟨some 74, none, .ld false 1 (.t 73)⟩), (6, ⟨some 75, none, .fa 1 1 (.t 7)⟩), (7, ⟨some 76, none, .ld false 1 (.t 75)⟩), (8, ⟨some 77, none, .mov (.t 8)⟩), (9, ⟨some 78, none, .ixa 4 (.t 76) (.t 77)⟩), (10, ⟨some 79, none, .fa 1 3 (.t 78)⟩), (11, ⟨some 80, none, .ld false 1 (.t 79)⟩), (12, ⟨some 81, none, .bin (.neq) (.t 74) (.t 80)⟩), (13, ⟨some 82, none, .mov (.t 81)⟩), (14, ⟨some 83, some (82, false), .fa 1 1 (.t 6)⟩), (15, ⟨some 84, some (82, false), .ld false 1 (.t 83)⟩), (16, ⟨some 85, some (82, false), .mov (.t 8)⟩), (17, ⟨some 86, some (82, false), .ixa 4 (.t 84) (.t 85)⟩), (18, ⟨some 87, some (82, false), .fa 0 0 (.t 86)⟩), (19, ⟨some 88, some (82, false), .ld true 3 (.t 87)⟩), (20, ⟨some 89, some (82, false), .fa 1 1 (.t 7)⟩), (21, ⟨some 90, some (82, false), .ld false 1 (.t 89)⟩), (22, ⟨some 91, some (82, false), .mov (.t 8)⟩), (23, ⟨some 92, some (82, false), .ixa 4 (.t 90) (.t 91)⟩), (24, ⟨some 93, some (82, false), .fa 0 0 (.t 92)⟩), (25, ⟨some 94, some (82, false), .ld true 3 (.t 93)⟩), (26, ⟨some 95, some (82, false), .call (.c (.fn (.func 33) [] [])) [.t 88, .t 94]⟩), (27, ⟨some 96, some (82, false), .not (.t 95)⟩), (28, ⟨some 97, none, .pick (.t 82) (.c (.bool true)) (.t 96)⟩)] env H) : aw PP ref16_Equal_c20 K env H := aw_dreg_lexF _ _ B ref16_Equal_c20_okF h
def ref16_Equal_c21 : AC := .reg [⟨some 4, none, .mov (.c (.bool false))⟩] [2, 3, 5, 6, 7, 8, 97]
@[simp] theorem ref16_Equal_c21_eq {K : AK} {env : Env} {H : AHeap} : aw PP ref16_Equal_c21 K env H = awOps PP [⟨some 4, none, .mov (.c (.bool false))⟩] (regK K [2, 3, 5, 6, 7, 8, 97]) (panK K) env H := aw_reg _ _
def ref16_Equal_c22 : AC := .seq ref16_Equal_c21 .ret
@[simp] theorem ref16_Equal_c22_eq {K : AK} {env : Env} {H : AHeap} : aw PP ref16_Equal_c22 K env H = aw PP ref16_Equal_c21 (seqK PP .ret K) env H := aw_seq ref16_Equal_c21 .ret
def ref16_Equal_c23 : AC := .cond (.t 97) ref16_Equal_c22 .skip
@[simp] theorem ref16_Equal_c23_eq {K : AK} {env : Env} {H : AHeap} : aw PP ref16_Equal_c23 K env H = condQ PP (Opd.ev env (.t 97)) ref16_Equal_c22 .skip K env H := aw_cond _ ref16_Equal_c22 .skip
def ref16_Equal_c24 : AC := .seq ref16_Equal_c20 ref16_Equal_c23
@[simp] theorem ref16_Equal_c24_eq {K : AK} {env : Env} {H : AHeap} : aw PP ref16_Equal_c24 K env H = aw PP ref16_Equal_c20 (seqK PP ref16_Equal_c23 K) env H := aw_seq ref16_Equal_c20 ref16_Equal_c23
def ref16_Equal_c25 : AC := .block 3 ref16_Equal_c24
@[simp] theorem ref16_Equal_c25_eq {K : AK} {env : Env} {H : AHeap} : aw PP ref16_Equal_c25 K env H = aw PP ref16_Equal_c24 (blockK 3 K) env H := aw_block _ ref16_Equal_c24
def ref16_Equal_c26 : AC := .reg [⟨some 67, none, .mov (.t 8)⟩, ⟨some 68, none, .bin (.add) (.t 67) (.c (.int (.i64) 1))⟩, ⟨some 8, none, .mov (.t 68)⟩] [67, 68, 97]
@[simp] theorem ref16_Equal_c26_eq {K : AK} {env : Env} {H : AHeap} : aw PP ref16_Equal_c26 K env H = awOps PP [⟨some 67, none, .mov (.t 8)⟩, ⟨some 68, none, .bin (.add) (.t 67) (.c (.int (.i64) 1))⟩, ⟨some 8, none, .mov (.t 68)⟩] (regK K [67, 68, 97]) (panK K) env H := aw_reg _ _
def ref16_Equal_c27 : AC := .seq ref16_Equal_c25 ref16_Equal_c26
@[simp] theorem ref16_Equal_c27_eq {K : AK} {env : Env} {H : AHeap} : aw PP ref16_Equal_c27 K env H = aw PP ref16_Equal_c25 (seqK PP ref16_Equal_c26 K) env H := aw_seq ref16_Equal_c25 ref16_Equal_c26
def ref16_Equal_c28 : AC := .seq ref16_Equal_c19 ref16_Equal_c27
@[simp] theorem ref16_Equal_c28_eq {K : AK} {env : Env} {H : AHeap} : aw PP ref16_Equal_c28 K env H = aw PP ref16_Equal_c19 (seqK PP ref16_Equal_c27 K) env H := aw_seq ref16_Equal_c19 ref16_Equal_c27
def ref16_Equal_c29 : AC := .loop ref16_Equal_c28
def ref16_Equal_c30 : AC := .block 2 ref16_Equal_c29
@[simp] theorem ref16_Equal_c30_eq {K : AK} {env : Env} {H : AHeap} : aw PP ref16_Equal_c30 K env H = aw PP ref16_Equal_c29 (blockK 2 K) env H := aw_block _ ref16_Equal_c29
def ref16_Equal_c31 : AC := .seq ref16_Equal_c16 ref16_Equal_c30
@[simp] theorem ref16_Equal_c31_eq {K : AK} {env : Env} {H : AHeap} : aw PP ref16_Equal_c31 K env H = aw PP ref16_Equal_c16 (seqK PP ref16_Equal_c30 K) env H := aw_seq ref16_Equal_c16 ref16_Equal_c30
def ref16_Equal_c32 : AC := .seq ref16_Equal_c15 ref16_Equal_c31
@[simp] theorem ref16_Equal_c32_eq {K : AK} {env : Env} {H : AHeap} : aw PP ref16_Equal_c32 K env H = aw PP ref16_Equal_c15 (seqK PP ref16_Equal_c31 K) env H := aw_seq ref16_Equal_c15 ref16_Equal_c31
def ref16_Equal_c33 : AC := .seq ref16_Equal_c10 ref16_Equal_c32
@[simp] theorem ref16_Equal_c33_eq {K : AK} {env : Env} {H : AHeap} : aw PP ref16_Equal_c33 K env H = aw PP ref16_Equal_c10 (seqK PP ref16_Equal_c32 K) env H := aw_seq ref16_Equal_c10 ref16_Equal_c32
def ref16_Equal_c34 : AC := .block 1 ref16_Equal_c33
@[simp] theorem ref16_Equal_c34_eq {K : AK} {env : Env} {H : AHeap} : aw PP ref16_Equal_c34 K env H = aw PP ref16_Equal_c33 (blockK 1 K) env H := aw_block _ ref16_Equal_c33
def ref16_Equal_c35 : AC := .reg [⟨some 36, none, .mov (.t 5)⟩, ⟨some 37, none, .bin (.add) (.t 36) (.c (.int (.i64) 1))⟩, ⟨some 5, none, .mov (.t 37)⟩] [6, 7, 8, 36, 37, 66]
@[simp] theorem ref16_Equal_c35_eq {K : AK} {env : Env} {H : AHeap} : aw PP ref16_Equal_c35 K env H = awOps PP [⟨some 36, none, .mov (.t 5)⟩, ⟨some 37, none, .bin (.add) (.t 36) (.c (.int (.i64) 1))⟩, ⟨some 5, none, .mov (.t 37)⟩] (regK K [6, 7, 8, 36, 37, 66]) (panK K) env H := aw_reg _ _
def ref16_Equal_c36 : AC := .seq ref16_Equal_c34 ref16_Equal_c35
@[simp] theorem ref16_Equal_c36_eq {K : AK} {env : Env} {H : AHeap} : aw PP ref16_Equal_c36 K env H = aw PP ref16_Equal_c34 (seqK PP ref16_Equal_c35 K) env H := aw_seq ref16_Equal_c34 ref16_Equal_c35
def ref16_Equal_c37 : AC := .seq ref16_Equal_c9 ref16_Equal_c36
@[simp] theorem ref16_Equal_c37_eq {K : AK} {env : Env} {H : AHeap} : aw PP ref16_Equal_c37 K env H = aw PP ref16_Equal_c9 (seqK PP ref16_Equal_c36 K) env H := aw_seq ref16_Equal_c9 ref16_Equal_c36
def ref16_Equal_c38 : AC := .loop ref16_Equal_c37
def ref16_Equal_c39 : AC := .block 0 ref16_Equal_c38
@[simp] theorem ref16_Equal_c39_eq {K : AK} {env : Env} {H : AHeap} : aw PP ref16_Equal_c39 K env H = aw PP ref16_Equal_c38 (blockK 0 K) env H := aw_block _ ref16_Equal_c38
def ref16_Equal_c40 : AC := .seq ref16_Equal_c6 ref16_Equal_c39
@[simp] theorem ref16_Equal_c40_eq {K : AK} {env : Env} {H : AHeap} : aw PP ref16_Equal_c40 K env H = aw PP ref16_Equal_c6 (seqK PP ref16_Equal_c39 K) env H := aw_seq ref16_Equal_c6 ref16_Equal_c39
def ref16_Equal_c41 : AC := .reg [⟨some 4, none, .mov (.c (.bool true))⟩] [2, 3, 5, 35]
@[simp] theorem ref16_Equal_c41_eq {K : AK} {env : Env} {H : AHeap} : aw PP ref16_Equal_c41 K env H = awOps PP [⟨some 4, none, .mov (.c (.bool true))⟩] (regK K [2, 3, 5, 35]) (panK K) env H := aw_reg _ _
def ref16_Equal_c42 : AC := .seq ref16_Equal_c41 .ret
@[simp] theorem ref16_Equal_c42_eq {K : AK} {env : Env} {H : AHeap} : aw PP ref16_Equal_c42 K env H = aw PP ref16_Equal_c41 (seqK PP .ret K) env H := aw_seq ref16_Equal_c41 .ret
def ref16_Equal_c43 : AC := .seq ref16_Equal_c40 ref16_Equal_c42
@[simp] theorem ref16_Equal_c43_eq {K : AK} {env : Env} {H : AHeap} : aw PP ref16_Equal_c43 K env H = aw PP ref16_Equal_c40 (seqK PP ref16_Equal_c42 K) env H := aw_seq ref16_Equal_c40 ref16_Equal_c42
def ref16_Equal_c44 : AC := .seq ref16_Equal_c5 ref16_Equal_c43
@[simp] theorem ref16_Equal_c44_eq {K : AK} {env : Env} {H : AHeap} : aw PP ref16_Equal_c44 K env H = aw PP ref16_Equal_c5 (seqK PP ref16_Equal_c43 K) env H := aw_seq ref16_Equal_c5 ref16_Equal_c43
def ref16_Equal_c45 : AC := .seq ref16_Equal_c0 ref16_Equal_c44
@[simp] theorem ref16_Equal_c45_eq {K : AK} {env : Env} {H : AHeap} : aw PP ref16_Equal_c45 K env H = aw PP ref16_Equal_c0 (seqK PP ref16_Equal_c44 K) env H := aw_seq ref16_Equal_c0 ref16_Equal_c44
def ref16_Equal_ac : AC := ref16_Equal_c45
@[simp] theorem ref16_Equal_ac_eq {K : AK} {env : Env} {H : AHeap} : aw PP ref16_Equal_ac K env H = aw PP ref16_Equal_c45 K env H := Eq.trans rfl rfl
def ref16_Equal_rs : List ARV := [.tmp 4]
abbrev ref16_Equal_id : Nat := 11
theorem ref16_Equal_comp : compF PP ref16_Equal_kl ref16_Equal_ow 2 Try.f11 = some (ref16_Equal_ac, ref16_Equal_rs) := by kernel_rfl
theorem ref16_Equal_enter {args : List AV} {H : AHeap} {post : ARes → AHeap → Prop} (ha : args.length = 2) (h : aw PP ref16_Equal_ac (retK ref16_Equal_rs post) (argEnv 0 args) H) : ACalls PP ref16_Equal_id args H post := .enterF Try.func11 PP_mix ref16_Equal_comp ha h

/-! emendate.emendatelaw17.empty -/
def law17_empty_kl : Nat → List Nat
  | 0 => [0, 2]
  | 1 => [1, 3, 4, 5, 6, 7, 8, 9, 10, 11, 12, 13, 14, 15, 16, 17]
  | _ => []
def law17_empty_ow : Nat → Nat → Bool := fun _ _ => false
def law17_empty_c0 : AC := .reg [⟨some 1, none, .box (.t 0) 3 26⟩, ⟨some 2, none, .mov (.c (.bool false))⟩] [0, 2]
@[simp] theorem law17_empty_c0_eq {K : AK} {env : Env} {H : AHeap} : aw PP law17_empty_c0 K env H = awOps PP [⟨some 1, none, .box (.t 0) 3 26⟩, ⟨some 2, none, .mov (.c (.bool false))⟩] (regK K [0, 2]) (panK K) env H := aw_reg _ _
def law17_empty_c1 : AC := .reg [⟨some 3, none, .fa 0 0 (.t 1)⟩, ⟨some 4, none, .ld false 1 (.t 3)⟩, ⟨some 5, none, .bin (.eql) (.t 4) (.c (.str []))⟩, ⟨some 6, none, .mov (.t 5)⟩, ⟨some 7, some (6, true), .fa 1 1 (.t 1)⟩, ⟨some 8, some (6, true), .ld false 1 (.t 7)⟩, ⟨some 9, some (6, true), .lenl (.t 8)⟩, ⟨some 10, some (6, true), .bin (.eql) (.t 9) (.c (.int (.i64) 0))⟩, ⟨some 11, none, .pick (.t 6) (.t 10) (.c (.bool false))⟩, ⟨some 12, none, .mov (.t 11)⟩, ⟨some 13, some (12, true), .fa 2 2 (.t 1)⟩, ⟨some 14, some (12, true), .ld false 1 (.t 13)⟩, ⟨some 15, some (12, true), .lenl (.t 14)⟩, ⟨some 16, some (12, true), .bin (.eql) (.t 15) (.c (.int (.i64) 0))⟩, ⟨some 17, none, .pick (.t 12) (.t 16) (.c (.bool false))⟩, ⟨some 2, none, .mov (.t 17)⟩] [1, 3, 4, 5, 6, 7, 8, 9, 10, 11, 12, 13, 14, 15, 16, 17]
@[simp] theorem law17_empty_c1_eq {K : AK} {env : Env} {H : AHeap} : aw PP law17_empty_c1 K env H = awOps PP [⟨some 3, none, .fa 0 0 (.t 1)⟩, ⟨some 4, none, .ld false 1 (.t 3)⟩, ⟨some 5, none, .bin (.eql) (.t 4) (.c (.str []))⟩, ⟨some 6, none, .mov (.t 5)⟩, ⟨some 7, some (6, true), .fa 1 1 (.t 1)⟩, ⟨some 8, some (6, true), .ld false 1 (.t 7)⟩, ⟨some 9, some (6, true), .lenl (.t 8)⟩, ⟨some 10, some (6, true), .bin (.eql) (.t 9) (.c (.int (.i64) 0))⟩, ⟨some 11, none, .pick (.t 6) (.t 10) (.c (.bool false))⟩, ⟨some 12, none, .mov (.t 11)⟩, ⟨some 13, some (12, true), .fa 2 2 (.t 1)⟩, ⟨some 14, some (12, true), .ld false 1 (.t 13)⟩, ⟨some 15, some (12, true), .lenl (.t 14)⟩, ⟨some 16, some (12, true), .bin (.eql) (.t 15) (.c (.int (.i64) 0))⟩, ⟨some 17, none, .pick (.t 12) (.t 16) (.c (.bool false))⟩, ⟨some 2, none, .mov (.t 17)⟩] (regK K [1, 3, 4, 5, 6, 7, 8, 9, 10, 11, 12, 13, 14, 15, 16, 17]) (panK K) env H := aw_reg _ _
def law17_empty_c2 : AC := .seq law17_empty_c1 .ret
@[simp] theorem law17_empty_c2_eq {K : AK} {env : Env} {H : AHeap} : aw PP law17_empty_c2 K env H = aw PP law17_empty_c1 (seqK PP .ret K) env H := aw_seq law17_empty_c1 .ret
def law17_empty_c3 : AC := .seq law17_empty_c0 law17_empty_c2
@[simp] theorem law17_empty_c3_eq {K : AK} {env : Env} {H : AHeap} : aw PP law17_empty_c3 K env H = aw PP law17_empty_c0 (seqK PP law17_empty_c2 K) env H := aw_seq law17_empty_c0 law17_empty_c2
def law17_empty_ac : AC := law17_empty_c3
@[simp] theorem law17_empty_ac_eq {K : AK} {env : Env} {H : AHeap} : aw PP law17_empty_ac K env H = aw PP law17_empty_c3 K env H := Eq.trans rfl rfl
def law17_empty_rs : List ARV := [.tmp 2]
abbrev law17_empty_id : Nat := 12
theorem law17_empty_comp : compF PP law17_empty_kl law17_empty_ow 1 Try.f12 = some (law17_empty_ac, law17_empty_rs) := by kernel_rfl
theorem law17_empty_enter {args : List AV} {H : AHeap} {post : ARes → AHeap → Prop} (ha : args.length = 1) (h : aw PP law17_empty_ac (retK law17_empty_rs post) (argEnv 0 args) H) : ACalls PP law17_empty_id args H post := .enterF Try.func12 PP_mix law17_empty_comp ha h

/-! emendate.emendateref17.Tokens -/
def ref17_Tokens_kl : Nat → List Nat
  | 0 => [2]
  | 1 => [5, 6, 7]
  | 2 => [8, 9]
  | 4 => [10, 11, 12, 13, 14, 15]
  | 5 => [16, 17, 18, 19, 20, 21]
  | 6 => [22, 23]
  | 7 => [0, 3, 4, 16, 24]
  | _ => []
def ref17_Tokens_ow : Nat → Nat → Bool := fun _ _ => false
def ref17_Tokens_c0 : AC := .reg [⟨some 2, none, .mov (.c (.nils))⟩] [2]
@[simp] theorem ref17_Tokens_c0_eq {K : AK} {env : Env} {H : AHeap} : aw PP ref17_Tokens_c0 K env H = awOps PP [⟨some 2, none, .mov (.c (.nils))⟩] (regK K [2]) (panK K) env H := aw_reg _ _
def ref17_Tokens_c1 : AC := .reg [⟨some 5, none, .mov (.t 0)⟩, ⟨some 6, none, .build [.str [], .int (.i64) 0, .int (.i64) 0, .bool false] [(0, .t 5)]⟩, ⟨some 7, none, .box (.t 6) 4 62⟩, ⟨some 3, none, .mov (.t 7)⟩] [5, 6, 7]
@[simp] theorem ref17_Tokens_c1_eq {K : AK} {env : Env} {H : AHeap} : aw PP ref17_Tokens_c1 K env H = awOps PP [⟨some 5, none, .mov (.t 0)⟩, ⟨some 6, none, .build [.str [], .int (.i64) 0, .int (.i64) 0, .bool false] [(0, .t 5)]⟩, ⟨some 7, none, .box (.t 6) 4 62⟩, ⟨some 3, none, .mov (.t 7)⟩] (regK K [5, 6, 7]) (panK K) env H := aw_reg _ _
def ref17_Tokens_c2 : AC := .reg [⟨some 8, none, .mov (.t 3)⟩, ⟨some 9, none, .call (.c (.fn (.func 25) [] [])) [.t 8]⟩] [8, 9]
@[simp] theorem ref17_Tokens_c2_eq {K : AK} {env : Env} {H : AHeap} : aw PP ref17_Tokens_c2 K env H = awOps PP [⟨some 8, none, .mov (.t 3)⟩, ⟨some 9, none, .call (.c (.fn (.func 25) [] [])) [.t 8]⟩] (regK K [8, 9]) (panK K) env H := aw_reg _ _
def ref17_Tokens_c3 : AC := .reg [⟨some 4, none, .mov (.c (.nils))⟩] []
@[simp] theorem ref17_Tokens_c3_eq {K : AK} {env : Env} {H : AHeap} : aw PP ref17_Tokens_c3 K env H = awOps PP [⟨some 4, none, .mov (.c (.nils))⟩] (regK K []) (panK K) env H := aw_reg _ _
def ref17_Tokens_c4 : AC := .reg [⟨some 10, none, .mov (.t 3)⟩, ⟨some 11, none, .nilc (.t 10)⟩, ⟨some 12, none, .fa 1 1 (.t 11)⟩, ⟨some 13, none, .ld false 1 (.t 12)⟩, ⟨some 14, none, .mov (.t 0)⟩, ⟨some 15, none, .lens (.t 14)⟩, ⟨some 16, none, .bin (.lss) (.t 13) (.t 15)⟩] [10, 11, 12, 13, 14, 15]
@[simp] theorem ref17_Tokens_c4_eq {K : AK} {env : Env} {H : AHeap} : aw PP ref17_Tokens_c4 K env H = awOps PP [⟨some 10, none, .mov (.t 3)⟩, ⟨some 11, none, .nilc (.t 10)⟩, ⟨some 12, none, .fa 1 1 (.t 11)⟩, ⟨some 13, none, .ld false 1 (.t 12)⟩, ⟨some 14, none, .mov (.t 0)⟩, ⟨some 15, none, .lens (.t 14)⟩, ⟨some 16, none, .bin (.lss) (.t 13) (.t 15)⟩] (regK K [10, 11, 12, 13, 14, 15]) (panK K) env H := aw_reg _ _
def ref17_Tokens_c5 : AC := .cond (.t 16) .skip (.exit 0)
@[simp] theorem ref17_Tokens_c5_eq {K : AK} {env : Env} {H : AHeap} : aw PP ref17_Tokens_c5 K env H = condQ PP (Opd.ev env (.t 16)) .skip (.exit 0) K env H := aw_cond _ .skip (.exit 0)
def ref17_Tokens_c6 : AC := .seq ref17_Tokens_c4 ref17_Tokens_c5
@[simp] theorem ref17_Tokens_c6_eq {K : AK} {env : Env} {H : AHeap} : aw PP ref17_Tokens_c6 K env H = aw PP ref17_Tokens_c4 (seqK PP ref17_Tokens_c5 K) env H := aw_seq ref17_Tokens_c4 ref17_Tokens_c5
def ref17_Tokens_c7 : AC := .reg [⟨some 17, none, .mov (.t 4)⟩, ⟨some 18, none, .mov (.t 3)⟩, ⟨some 19, none, .call (.c (.fn (.func 34) [] [])) [.t 18]⟩, ⟨some 20, none, .bsl false 9 1 1 (.str []) [(0, .t 19)]⟩, ⟨some 21, none, .app 9 1 16 (.t 17) (.t 20)⟩, ⟨some 4, none, .mov (.t 21)⟩] [16, 17, 18, 19, 20, 21]
@[simp] theorem ref17_Tokens_c7_eq {K : AK} {env : Env} {H : AHeap} : aw PP ref17_Tokens_c7 K env H = awOps PP [⟨some 17, none, .mov (.t 4)⟩, ⟨some 18, none, .mov (.t 3)⟩, ⟨some 19, none, .call (.c (.fn (.func 34) [] [])) [.t 18]⟩, ⟨some 20, none, .bsl false 9 1 1 (.str []) [(0, .t 19)]⟩, ⟨some 21, none, .app 9 1 16 (.t 17) (.t 20)⟩, ⟨some 4, none, .mov (.t 21)⟩] (regK K [16, 17, 18, 19, 20, 21]) (panK K) env H := aw_reg _ _
def ref17_Tokens_c8 : AC := .reg [⟨some 22, none, .mov (.t 3)⟩, ⟨some 23, none, .call (.c (.fn (.func 25) [] [])) [.t 22]⟩] [22, 23]
@[simp] theorem ref17_Tokens_c8_eq {K : AK} {env : Env} {H : AHeap} : aw PP ref17_Tokens_c8 K env H = awOps PP [⟨some 22, none, .mov (.t 3)⟩, ⟨some 23, none, .call (.c (.fn (.func 25) [] [])) [.t 22]⟩] (regK K [22, 23]) (panK K) env H := aw_reg _ _
def ref17_Tokens_c9 : AC := .seq ref17_Tokens_c7 ref17_Tokens_c8
@[simp] theorem ref17_Tokens_c9_eq {K : AK} {env : Env} {H : AHeap} : aw PP ref17_Tokens_c9 K env H = aw PP ref17_Tokens_c7 (seqK PP ref17_Tokens_c8 K) env H := aw_seq ref17_Tokens_c7 ref17_Tokens_c8
def ref17_Tokens_c10 : AC := .block 1 ref17_Tokens_c9
@[simp] theorem ref17_Tokens_c10_eq {K : AK} {env : Env} {H : AHeap} : aw PP ref17_Tokens_c10 K env H = aw PP ref17_Tokens_c9 (blockK 1 K) env H := aw_block _ ref17_Tokens_c9
def ref17_Tokens_c11 : AC := .seq ref17_Tokens_c6 ref17_Tokens_c10
@[simp] theorem ref17_Tokens_c11_eq {K : AK} {env : Env} {H : AHeap} : aw PP ref17_Tokens_c11 K env H = aw PP ref17_Tokens_c6 (seqK PP ref17_Tokens_c10 K) env H := aw_seq ref17_Tokens_c6 ref17_Tokens_c10
def ref17_Tokens_c12 : AC := .loop ref17_Tokens_c11
def ref17_Tokens_c13 : AC := .block 0 ref17_Tokens_c12
@[simp] theorem ref17_Tokens_c13_eq {K : AK} {env : Env} {H : AHeap} : aw PP ref17_Tokens_c13 K env H = aw PP ref17_Tokens_c12 (blockK 0 K) env H := aw_block _ ref17_Tokens_c12
def ref17_Tokens_c14 : AC := .reg [⟨some 24, none, .mov (.t 4)⟩, ⟨some 2, none, .mov (.t 24)⟩] [0, 3, 4, 16, 24]
@[simp] theorem ref17_Tokens_c14_eq {K : AK} {env : Env} {H : AHeap} : aw PP ref17_Tokens_c14 K env H = awOps PP [⟨some 24, none, .mov (.t 4)⟩, ⟨some 2, none, .mov (.t 24)⟩] (regK K [0, 3, 4, 16, 24]) (panK K) env H := aw_reg _ _
def ref17_Tokens_c15 : AC := .seq ref17_Tokens_c14 .ret
@[simp] theorem ref17_Tokens_c15_eq {K : AK} {env : Env} {H : AHeap} : aw PP ref17_Tokens_c15 K env H = aw PP ref17_Tokens_c14 (seqK PP .ret K) env H := aw_seq ref17_Tokens_c14 .ret
def ref17_Tokens_c16 : AC := .seq ref17_Tokens_c13 ref17_Tokens_c15
@[simp] theorem ref17_Tokens_c16_eq {K : AK} {env : Env} {H : AHeap} : aw PP ref17_Tokens_c16 K env H = aw PP ref17_Tokens_c13 (seqK PP ref17_Tokens_c15 K) env H := aw_seq ref17_Tokens_c13 ref17_Tokens_c15
def ref17_Tokens_c17 : AC := .seq ref17_Tokens_c3 ref17_Tokens_c16
@[simp] theorem ref17_Tokens_c17_eq {K : AK} {env : Env} {H : AHeap} : aw PP ref17_Tokens_c17 K env H = aw PP ref17_Tokens_c3 (seqK PP ref17_Tokens_c16 K) env H := aw_seq ref17_Tokens_c3 ref17_Tokens_c16
def ref17_Tokens_c18 : AC := .seq ref17_Tokens_c2 ref17_Tokens_c17
@[simp] theorem ref17_Tokens_c18_eq {K : AK} {env : Env} {H : AHeap} : aw PP ref17_Tokens_c18 K env H = aw PP ref17_Tokens_c2 (seqK PP ref17_Tokens_c17 K) env H := aw_seq ref17_Tokens_c2 ref17_Tokens_c17
def ref17_Tokens_c19 : AC := .seq ref17_Tokens_c1 ref17_Tokens_c18
@[simp] theorem ref17_Tokens_c19_eq {K : AK} {env : Env} {H : AHeap} : aw PP ref17_Tokens_c19 K env H = aw PP ref17_Tokens_c1 (seqK PP ref17_Tokens_c18 K) env H := aw_seq ref17_Tokens_c1 ref17_Tokens_c18
def ref17_Tokens_c20 : AC := .seq ref17_Tokens_c0 ref17_Tokens_c19
@[simp] theorem ref17_Tokens_c20_eq {K : AK} {env : Env} {H : AHeap} : aw PP ref17_Tokens_c20 K env H = aw PP ref17_Tokens_c0 (seqK PP ref17_Tokens_c19 K) env H := aw_seq ref17_Tokens_c0 ref17_Tokens_c19
def ref17_Tokens_ac : AC := ref17_Tokens_c20
@[simp] theorem ref17_Tokens_ac_eq {K : AK} {env : Env} {H : AHeap} : aw PP ref17_Tokens_ac K env H = aw PP ref17_Tokens_c20 K env H := Eq.trans rfl rfl
def ref17_Tokens_rs : List ARV := [.tmp 2]
abbrev ref17_Tokens_id : Nat := 13
theorem ref17_Tokens_comp : compF PP ref17_Tokens_kl ref17_Tokens_ow 1 Try.f13 = some (ref17_Tokens_ac, ref17_Tokens_rs) := by kernel_rfl
theorem ref17_Tokens_enter {args : List AV} {H : AHeap} {post : ARes → AHeap → Prop} (ha : args.length = 1) (h : aw PP ref17_Tokens_ac (retK ref17_Tokens_rs post) (argEnv 0 args) H) : ACalls PP ref17_Tokens_id args H post := .enterF Try.func13 PP_mix ref17_Tokens_comp ha h

/-! emendate.emendateref16.Valid -/
def ref16_Valid_kl : Nat → List Nat
  | 0 => [0, 2]
  | 1 => [14, 15, 16, 17, 18, 19, 20, 21, 22]
  | 2 => [1, 23]
  | 3 => [23]
  | 5 => [24, 25, 26, 27]
  | 6 => [5, 7, 29, 30, 72]
  | 7 => [28, 31, 32, 33, 34, 35]
  | 8 => [36, 37, 38, 39, 40, 41, 42, 43]
  | 9 => [44, 45, 46, 47, 48, 49, 50, 51, 52]
  | 10 => [1, 3, 4, 5, 53]
  | 11 => [53]
  | 12 => [54, 55]
  | 13 => [57, 58, 67]
  | 14 => [56, 59, 60, 61, 62, 63, 64, 65, 66]
  | 15 => [1, 3, 4, 5, 6, 67]
  | 16 => [6, 56]
  | 17 => [68, 69, 70, 71]
  | 18 => [73, 74, 93]
  | 19 => [72, 75, 76, 77, 78, 79]
  | 20 => [8, 80, 81, 82, 83, 84, 85, 86, 87, 88, 89, 90, 91, 92]
  | 21 => [1, 3, 4, 5, 7, 93]
  | 22 => [4, 28]
  | 24 => [94, 95, 96, 97]
  | 25 => [11, 12, 99, 100, 124]
  | 26 => [98, 101, 102, 103, 104, 105]
  | 27 => [106, 107, 108, 109, 110, 111, 112, 113, 114, 115, 116, 117, 118]
  | 28 => [1, 3, 9, 10, 11, 119]
  | 29 => [119]
  | 30 => [120, 121, 122, 123]
  | 31 => [125, 126]
  | 32 => [124]
  | 33 => [127, 128, 129]
  | 34 => [131, 132, 142]
  | 35 => [130, 133, 134, 135, 136, 137, 138, 139, 140, 141]
  | 36 => [1, 3, 9, 10, 11, 12, 13, 142]
  | 37 => [13, 130, 143, 144, 145, 146, 147, 148]
  | 38 => [1, 3, 9, 10, 11, 12, 149]
  | 39 => [149, 150, 151, 152, 153, 154, 155, 156, 157]
  | 40 => [1, 3, 9, 10, 98, 158]
  | _ => []
def ref16_Valid_ow : Nat → Nat → Bool := fun _ _ => false
def ref16_Valid_c0 : AC := .reg [⟨some 1, none, .box (.t 0) 3 26⟩, ⟨some 2, none, .mov (.c (.bool false))⟩] [0, 2]
@[simp] theorem ref16_Valid_c0_eq {K : AK} {env : Env} {H : AHeap} : aw PP ref16_Valid_c0 K env H = awOps PP [⟨some 1, none, .box (.t 0) 3 26⟩, ⟨some 2, none, .mov (.c (.bool false))⟩] (regK K [0, 2]) (panK K) env H := aw_reg _ _
def ref16_Valid_c1 : AC := .reg [⟨some 14, none, .fa 2 2 (.t 1)⟩, ⟨some 15, none, .ld false 1 (.t 14)⟩, ⟨some 16, none, .lenl (.t 15)⟩, ⟨some 17, none, .bin (.lss) (.t 16) (.c (.int (.i64) 1))⟩, ⟨some 18, none, .mov (.t 17)⟩, ⟨some 19, some (18, false), .fa 2 2 (.t 1)⟩, ⟨some 20, some (18, false), .ld false 1 (.t 19)⟩, ⟨some 21, some (18, false), .lenl (.t 20)⟩, ⟨some 22, some (18, false), .bin (.gtr) (.t 21) (.c (.int (.i64) 120))⟩, ⟨some 23, none, .pick (.t 18) (.c (.bool true)) (.t 22)⟩] [14, 15, 16, 17, 18, 19, 20, 21, 22]
@[simp] theorem ref16_Valid_c1_eq {K : AK} {env : Env} {H : AHeap} : aw PP ref16_Valid_c1 K env H = awOps PP [⟨some 14, none, .fa 2 2 (.t 1)⟩, ⟨some 15, none, .ld false 1 (.t 14)⟩, ⟨some 16, none, .lenl (.t 15)⟩, ⟨some 17, none, .bin (.lss) (.t 16) (.c (.int (.i64) 1))⟩, ⟨some 18, none, .mov (.t 17)⟩, ⟨some 19, some (18, false), .fa 2 2 (.t 1)⟩, ⟨some 20, some (18, false), .ld false 1 (.t 19)⟩, ⟨some 21, some (18, false), .lenl (.t 20)⟩, ⟨some 22, some (18, false), .bin (.gtr) (.t 21) (.c (.int (.i64) 120))⟩, ⟨some 23, none, .pick (.t 18) (.c (.bool true)) (.t 22)⟩] (regK K [14, 15, 16, 17, 18, 19, 20, 21, 22]) (panK K) env H := aw_reg _ _
def ref16_Valid_c2 : AC := .reg [⟨some 2, none, .mov (.c (.bool false))⟩] [1, 23]
@[simp] theorem ref16_Valid_c2_eq {K : AK} {env : Env} {H : AHeap} : aw PP ref16_Valid_c2 K env H = awOps PP [⟨some 2, none, .mov (.c (.bool false))⟩] (regK K [1, 23]) (panK K) env H := aw_reg _ _
def ref16_Valid_c3 : AC := .seq ref16_Valid_c2 .ret
@[simp] theorem ref16_Valid_c3_eq {K : AK} {env : Env} {H : AHeap} : aw PP ref16_Valid_c3 K env H = aw PP ref16_Valid_c2 (seqK PP .ret K) env H := aw_seq ref16_Valid_c2 .ret
def ref16_Valid_c4 : AC := .cond (.t 23) ref16_Valid_c3 .skip
@[simp] theorem ref16_Valid_c4_eq {K : AK} {env : Env} {H : AHeap} : aw PP ref16_Valid_c4 K env H = condQ PP (Opd.ev env (.t 23)) ref16_Valid_c3 .skip K env H := aw_cond _ ref16_Valid_c3 .skip
def ref16_Valid_c5 : AC := .seq ref16_Valid_c1 ref16_Valid_c4
@[simp] theorem ref16_Valid_c5_eq {K : AK} {env : Env} {H : AHeap} : aw PP ref16_Valid_c5 K env H = aw PP ref16_Valid_c1 (seqK PP ref16_Valid_c4 K) env H := aw_seq ref16_Valid_c1 ref16_Valid_c4
def ref16_Valid_c6 : AC := .reg [⟨some 3, none, .mov (.c (.bool false))⟩] [23]
@[simp] theorem ref16_Valid_c6_eq {K : AK} {env : Env} {H : AHeap} : aw PP ref16_Valid_c6 K env H = awOps PP [⟨some 3, none, .mov (.c (.bool false))⟩] (regK K [23]) (panK K) env H := aw_reg _ _
def ref16_Valid_c7 : AC := .reg [⟨some 4, none, .mov (.c (.int (.i64) 0))⟩] []
@[simp] theorem ref16_Valid_c7_eq {K : AK} {env : Env} {H : AHeap} : aw PP ref16_Valid_c7 K env H = awOps PP [⟨some 4, none, .mov (.c (.int (.i64) 0))⟩] (regK K []) (panK K) env H := aw_reg _ _
def ref16_Valid_c8 : AC := .reg [⟨some 24, none, .mov (.t 4)⟩, ⟨some 25, none, .fa 2 2 (.t 1)⟩, ⟨some 26, none, .ld false 1 (.t 25)⟩, ⟨some 27, none, .lenl (.t 26)⟩, ⟨some 28, none, .bin (.lss) (.t 24) (.t 27)⟩] [24, 25, 26, 27]
@[simp] theorem ref16_Valid_c8_eq {K : AK} {env : Env} {H : AHeap} : aw PP ref16_Valid_c8 K env H = awOps PP [⟨some 24, none, .mov (.t 4)⟩, ⟨some 25, none, .fa 2 2 (.t 1)⟩, ⟨some 26, none, .ld false 1 (.t 25)⟩, ⟨some 27, none, .lenl (.t 26)⟩, ⟨some 28, none, .bin (.lss) (.t 24) (.t 27)⟩] (regK K [24, 25, 26, 27]) (panK K) env H := aw_reg _ _
def ref16_Valid_c9 : AC := .cond (.t 28) .skip (.exit 0)
@[simp] theorem ref16_Valid_c9_eq {K : AK} {env : Env} {H : AHeap} : aw PP ref16_Valid_c9 K env H = condQ PP (Opd.ev env (.t 28)) .skip (.exit 0) K env H := aw_cond _ .skip (.exit 0)
def ref16_Valid_c10 : AC := .seq ref16_Valid_c8 ref16_Valid_c9
@[simp] theorem ref16_Valid_c10_eq {K : AK} {env : Env} {H : AHeap} : aw PP ref16_Valid_c10 K env H = aw PP ref16_Valid_c8 (seqK PP ref16_Valid_c9 K) env H := aw_seq ref16_Valid_c8 ref16_Valid_c9
def ref16_Valid_c11 : AC := .reg [⟨some 31, none, .fa 2 2 (.t 1)⟩, ⟨some 32, none, .ld false 1 (.t 31)⟩, ⟨some 33, none, .mov (.t 4)⟩, ⟨some 34, none, .ixa 2 (.t 32) (.t 33)⟩, ⟨some 35, none, .ld true 2 (.t 34)⟩, ⟨some 5, none, .alloc (.struct [.str [], .nils]) 44⟩, ⟨none, none, .st 2 (.t 5) (.t 35)⟩] [28, 31, 32, 33, 34, 35]
@[simp] theorem ref16_Valid_c11_eq {K : AK} {env : Env} {H : AHeap} : aw PP ref16_Valid_c11 K env H = awOps PP [⟨some 31, none, .fa 2 2 (.t 1)⟩, ⟨some 32, none, .ld false 1 (.t 31)⟩, ⟨some 33, none, .mov (.t 4)⟩, ⟨some 34, none, .ixa 2 (.t 32) (.t 33)⟩, ⟨some 35, none, .ld true 2 (.t 34)⟩, ⟨some 5, none, .alloc (.struct [.str [], .nils]) 44⟩, ⟨none, none, .st 2 (.t 5) (.t 35)⟩] (regK K [28, 31, 32, 33, 34, 35]) (panK K) env H := aw_reg _ _
def ref16_Valid_c12 : AC := .reg [⟨some 36, none, .mov (.t 3)⟩, ⟨some 37, none, .mov (.t 36)⟩, ⟨some 38, some (37, false), .fa 0 0 (.t 5)⟩, ⟨some 39, some (37, false), .ld false 1 (.t 38)⟩, ⟨some 40, some (37, false), .fa 0 0 (.t 1)⟩, ⟨some 41, some (37, false), .ld false 1 (.t 40)⟩, ⟨some 42, some (37, false), .bin (.eql) (.t 39) (.t 41)⟩, ⟨some 43, none, .pick (.t 37) (.c (.bool true)) (.t 42)⟩, ⟨some 3, none, .mov (.t 43)⟩] [36, 37, 38, 39, 40, 41, 42, 43]
@[simp] theorem ref16_Valid_c12_eq {K : AK} {env : Env} {H : AHeap} : aw PP ref16_Valid_c12 K env H = awOps PP [⟨some 36, none, .mov (.t 3)⟩, ⟨some 37, none, .mov (.t 36)⟩, ⟨some 38, some (37, false), .fa 0 0 (.t 5)⟩, ⟨some 39, some (37, false), .ld false 1 (.t 38)⟩, ⟨some 40, some (37, false), .fa 0 0 (.t 1)⟩, ⟨some 41, some (37, false), .ld false 1 (.t 40)⟩, ⟨some 42, some (37, false), .bin (.eql) (.t 39) (.t 41)⟩, ⟨some 43, none, .pick (.t 37) (.c (.bool true)) (.t 42)⟩, ⟨some 3, none, .mov (.t 43)⟩] (regK K [36, 37, 38, 39, 40, 41, 42, 43]) (panK K) env H := aw_reg _ _
def ref16_Valid_c13 : AC := .reg [⟨some 44, none, .fa 0 0 (.t 5)⟩, ⟨some 45, none, .ld false 1 (.t 44)⟩, ⟨some 46, none, .call (.c (.fn (.func 36) [] [])) [.t 45]⟩, ⟨some 47, none, .not (.t 46)⟩, ⟨some 48, none, .mov (.t 47)⟩, ⟨some 49, some (48, false), .fa 1 1 (.t 5)⟩, ⟨some 50, some (48, false), .ld false 1 (.t 49)⟩, ⟨some 51, some (48, false), .lenl (.t 50)⟩, ⟨some 52, some (48, false), .bin (.eql) (.t 51) (.c (.int (.i64) 0))⟩, ⟨some 53, none, .pick (.t 48) (.c (.bool true)) (.t 52)⟩] [44, 45, 46, 47, 48, 49, 50, 51, 52]
@[simp] theorem ref16_Valid_c13_eq {K : AK} {env : Env} {H : AHeap} : aw PP ref16_Valid_c13 K env H = awOps PP [⟨some 44, none, .fa 0 0 (.t 5)⟩, ⟨some 45, none, .ld false 1 (.t 44)⟩, ⟨some 46, none, .call (.c (.fn (.func 36) [] [])) [.t 45]⟩, ⟨some 47, none, .not (.t 46)⟩, ⟨some 48, none, .mov (.t 47)⟩, ⟨some 49, some (48, false), .fa 1 1 (.t 5)⟩, ⟨some 50, some (48, false), .ld false 1 (.t 49)⟩, ⟨some 51, some (48, false), .lenl (.t 50)⟩, ⟨some 52, some (48, false), .bin (.eql) (.t 51) (.c (.int (.i64) 0))⟩, ⟨some 53, none, .pick (.t 48) (.c (.bool true)) (.t 52)⟩] (regK K [44, 45, 46, 47, 48, 49, 50, 51, 52]) (panK K) env H := aw_reg _ _
def ref16_Valid_c14 : AC := .reg [⟨some 2, none, .mov (.c (.bool false))⟩] [1, 3, 4, 5, 53]
@[simp] theorem ref16_Valid_c14_eq {K : AK} {env : Env} {H : AHeap} : aw PP ref16_Valid_c14 K env H = awOps PP [⟨some 2, none, .mov (.c (.bool false))⟩] (regK K [1, 3, 4, 5, 53]) (panK K) env H := aw_reg _ _
def ref16_Valid_c15 : AC := .seq ref16_Valid_c14 .ret
@[simp] theorem ref16_Valid_c15_eq {K : AK} {env : Env} {H : AHeap} : aw PP ref16_Valid_c15 K env H = aw PP ref16_Valid_c14 (seqK PP .ret K) env H := aw_seq ref16_Valid_c14 .ret
def ref16_Valid_c16 : AC := .cond (.t 53) ref16_Valid_c15 .skip
@[simp] theorem ref16_Valid_c16_eq {K : AK} {env : Env} {H : AHeap} : aw PP ref16_Valid_c16 K env H = condQ PP (Opd.ev env (.t 53)) ref16_Valid_c15 .skip K env H := aw_cond _ ref16_Valid_c15 .skip
def ref16_Valid_c17 : AC := .seq ref16_Valid_c13 ref16_Valid_c16
@[simp] theorem ref16_Valid_c17_eq {K : AK} {env : Env} {H : AHeap} : aw PP ref16_Valid_c17 K env H = aw PP ref16_Valid_c13 (seqK PP ref16_Valid_c16 K) env H := aw_seq ref16_Valid_c13 ref16_Valid_c16
def ref16_Valid_c18 : AC := .reg [⟨some 6, none, .mov (.c (.int (.i64) 0))⟩] [53]
@[simp] theorem ref16_Valid_c18_eq {K : AK} {env : Env} {H : AHeap} : aw PP ref16_Valid_c18 K env H = awOps PP [⟨some 6, none, .mov (.c (.int (.i64) 0))⟩] (regK K [53]) (panK K) env H := aw_reg _ _
def ref16_Valid_c19 : AC := .reg [⟨some 54, none, .mov (.t 6)⟩, ⟨some 55, none, .mov (.t 4)⟩, ⟨some 56, none, .bin (.lss) (.t 54) (.t 55)⟩] [54, 55]
@[simp] theorem ref16_Valid_c19_eq {K : AK} {env : Env} {H : AHeap} : aw PP ref16_Valid_c19 K env H = awOps PP [⟨some 54, none, .mov (.t 6)⟩, ⟨some 55, none, .mov (.t 4)⟩, ⟨some 56, none, .bin (.lss) (.t 54) (.t 55)⟩] (regK K [54, 55]) (panK K) env H := aw_reg _ _
def ref16_Valid_c20 : AC := .cond (.t 56) .skip (.exit 2)
@[simp] theorem ref16_Valid_c20_eq {K : AK} {env : Env} {H : AHeap} : aw PP ref16_Valid_c20 K env H = condQ PP (Opd.ev env (.t 56)) .skip (.exit 2) K env H := aw_cond _ .skip (.exit 2)
def ref16_Valid_c21 : AC := .seq ref16_Valid_c19 ref16_Valid_c20
@[simp] theorem ref16_Valid_c21_eq {K : AK} {env : Env} {H : AHeap} : aw PP ref16_Valid_c21 K env H = aw PP ref16_Valid_c19 (seqK PP ref16_Valid_c20 K) env H := aw_seq ref16_Valid_c19 ref16_Valid_c20
def ref16_Valid_c22_ops : List (AI × List Nat) := [(⟨some 59, none, .fa 2 2 (.t 1)⟩, []), (⟨some 60, none, .ld false 1 (.t 59)⟩, [0]), (⟨some 61, none, .mov (.t 6)⟩, []), (⟨some 62, none, .ixa 2 (.t 60) (.t 61)⟩, [1, 2]), (⟨some 63, none, .fa 0 0 (.t 62)⟩, [3]), (⟨some 64, none, .ld false 1 (.t 63)⟩, [4]), (⟨some 65, none, .fa 0 0 (.t 5)⟩, []), (⟨some 66, none, .ld false 1 (.t 65)⟩, [6]), (⟨some 67, none, .bin (.eql) (.t 64) (.t 66)⟩, [5, 7])]
def ref16_Valid_c22 : AC := .dreg ref16_Valid_c22_ops [56, 59, 60, 61, 62, 63, 64, 65, 66]
theorem ref16_Valid_c22_ok : lexOK ref16_Valid_c22_ops (fun i => [].contains i) = true := by kernel_rfl
theorem ref16_Valid_c22_lex {K : AK} {env : Env} {H : AHeap} (h : awLex PP (fun i => [].contains i) (regK K [56, 59, 60, 61, 62, 63, 64, 65, 66]) (panK K) [(0, ⟨some 59, none, .fa 2 2 (.t 1)⟩), (1, ⟨some 60, none, .ld false 1 (.t 59)⟩), (2, ⟨some 61, none, .mov (.t 6)⟩), (3, ⟨some 62, none, .ixa 2 (.t 60) (.t 61)⟩), (4, ⟨some 63, none, .fa 0 0 (.t 62)⟩), (5, ⟨some 64, none, .ld false 1 (.t 63)⟩), (6, ⟨some 65, none, .fa 0 0 (.t 5)⟩), (7, ⟨some 66, none, .ld false 1 (.t 65)⟩), (8, ⟨some 67, none, .bin (.eql) (.t 64) (.t 66)⟩)] env H) : aw PP ref16_Valid_c22 K env H := aw_dreg_lex _ ref16_Valid_c22_ok h
def ref16_Valid_c23 : AC := .reg [⟨some 2, none, .mov (.c (.bool false))⟩] [1, 3, 4, 5, 6, 67]
@[simp] theorem ref16_Valid_c23_eq {K : AK} {env : Env} {H : AHeap} : aw PP ref16_Valid_c23 K env H = awOps PP [⟨some 2, none, .mov (.c (.bool false))⟩] (regK K [1, 3, 4, 5, 6, 67]) (panK K) env H := aw_reg _ _
def ref16_Valid_c24 : AC := .seq ref16_Valid_c23 .ret
@[simp] theorem ref16_Valid_c24_eq {K : AK} {env : Env} {H : AHeap} : aw PP ref16_Valid_c24 K env H = aw PP ref16_Valid_c23 (seqK PP .ret K) env H := aw_seq ref16_Valid_c23 .ret
def ref16_Valid_c25 : AC := .cond (.t 67) ref16_Valid_c24 .skip
@[simp] theorem ref16_Valid_c25_eq {K : AK} {env : Env} {H : AHeap} : aw PP ref16_Valid_c25 K env H = condQ PP (Opd.ev env (.t 67)) ref16_Valid_c24 .skip K env H := aw_cond _ ref16_Valid_c24 .skip
def ref16_Valid_c26 : AC := .seq ref16_Valid_c22 ref16_Valid_c25
@[simp] theorem ref16_Valid_c26_eq {K : AK} {env : Env} {H : AHeap} : aw PP ref16_Valid_c26 K env H = aw PP ref16_Valid_c22 (seqK PP ref16_Valid_c25 K) env H := aw_seq ref16_Valid_c22 ref16_Valid_c25
def ref16_Valid_c27 : AC := .block 3 ref16_Valid_c26
@[simp] theorem ref16_Valid_c27_eq {K : AK} {env : Env} {H : AHeap} : aw PP ref16_Valid_c27 K env H = aw PP ref16_Valid_c26 (blockK 3 K) env H := aw_block _ ref16_Valid_c26
def ref16_Valid_c28 : AC := .reg [⟨some 57, none, .mov (.t 6)⟩, ⟨some 58, none, .bin (.add) (.t 57) (.c (.int (.i64) 1))⟩, ⟨some 6, none, .mov (.t 58)⟩] [57, 58, 67]
@[simp] theorem ref16_Valid_c28_eq {K : AK} {env : Env} {H : AHeap} : aw PP ref16_Valid_c28 K env H = awOps PP [⟨some 57, none, .mov (.t 6)⟩, ⟨some 58, none, .bin (.add) (.t 57) (.c (.int (.i64) 1))⟩, ⟨some 6, none, .mov (.t 58)⟩] (regK K [57, 58, 67]) (panK K) env H := aw_reg _ _
def ref16_Valid_c29 : AC := .seq ref16_Valid_c27 ref16_Valid_c28
@[simp] theorem ref16_Valid_c29_eq {K : AK} {env : Env} {H : AHeap} : aw PP ref16_Valid_c29 K env H = aw PP ref16_Valid_c27 (seqK PP ref16_Valid_c28 K) env H := aw_seq ref16_Valid_c27 ref16_Valid_c28
def ref16_Valid_c30 : AC := .seq ref16_Valid_c21 ref16_Valid_c29
@[simp] theorem ref16_Valid_c30_eq {K : AK} {env : Env} {H : AHeap} : aw PP ref16_Valid_c30 K env H = aw PP ref16_Valid_c21 (seqK PP ref16_Valid_c29 K) env H := aw_seq ref16_Valid_c21 ref16_Valid_c29
def ref16_Valid_c31 : AC := .loop ref16_Valid_c30
def ref16_Valid_c32 : AC := .block 2 ref16_Valid_c31
@[simp] theorem ref16_Valid_c32_eq {K : AK} {env : Env} {H : AHeap} : aw PP ref16_Valid_c32 K env H = aw PP ref16_Valid_c31 (blockK 2 K) env H := aw_block _ ref16_Valid_c31
def ref16_Valid_c33 : AC := .seq ref16_Valid_c18 ref16_Valid_c32
@[simp] theorem ref16_Valid_c33_eq {K : AK} {env : Env} {H : AHeap} : aw PP ref16_Valid_c33 K env H = aw PP ref16_Valid_c18 (seqK PP ref16_Valid_c32 K) env H := aw_seq ref16_Valid_c18 ref16_Valid_c32
def ref16_Valid_c34 : AC := .reg [⟨some 7, none, .mov (.c (.int (.i64) 0))⟩] [6, 56]
@[simp] theorem ref16_Valid_c34_eq {K : AK} {env : Env} {H : AHeap} : aw PP ref16_Valid_c34 K env H = awOps PP [⟨some 7, none, .mov (.c (.int (.i64) 0))⟩] (regK K [6, 56]) (panK K) env H := aw_reg _ _
def ref16_Valid_c35 : AC := .reg [⟨some 68, none, .mov (.t 7)⟩, ⟨some 69, none, .fa 1 1 (.t 5)⟩, ⟨some 70, none, .ld false 1 (.t 69)⟩, ⟨some 71, none, .lenl (.t 70)⟩, ⟨some 72, none, .bin (.lss) (.t 68) (.t 71)⟩] [68, 69, 70, 71]
@[simp] theorem ref16_Valid_c35_eq {K : AK} {env : Env} {H : AHeap} : aw PP ref16_Valid_c35 K env H = awOps PP [⟨some 68, none, .mov (.t 7)⟩, ⟨some 69, none, .fa 1 1 (.t 5)⟩, ⟨some 70, none, .ld false 1 (.t 69)⟩, ⟨some 71, none, .lenl (.t 70)⟩, ⟨some 72, none, .bin (.lss) (.t 68) (.t 71)⟩] (regK K [68, 69, 70, 71]) (panK K) env H := aw_reg _ _
def ref16_Valid_c36 : AC := .cond (.t 72) .skip (.exit 4)
@[simp] theorem ref16_Valid_c36_eq {K : AK} {env : Env} {H : AHeap} : aw PP ref16_Valid_c36 K env H = condQ PP (Opd.ev env (.t 72)) .skip (.exit 4) K env H := aw_cond _ .skip (.exit 4)
def ref16_Valid_c37 : AC := .seq ref16_Valid_c35 ref16_Valid_c36
@[simp] theorem ref16_Valid_c37_eq {K : AK} {env : Env} {H : AHeap} : aw PP ref16_Valid_c37 K env H = aw PP ref16_Valid_c35 (seqK PP ref16_Valid_c36 K) env H := aw_seq ref16_Valid_c35 ref16_Valid_c36
def ref16_Valid_c38 : AC := .reg [⟨some 75, none, .fa 1 1 (.t 5)⟩, ⟨some 76, none, .ld false 1 (.t 75)⟩, ⟨some 77, none, .mov (.t 7)⟩, ⟨some 78, none, .ixa 4 (.t 76) (.t 77)⟩, ⟨some 79, none, .ld true 4 (.t 78)⟩, ⟨some 8, none, .alloc (.struct [.struct [.int (.i64) 0, .str [], .nils], .int (.i64) 0]) 49⟩, ⟨none, none, .st 4 (.t 8) (.t 79)⟩] [72, 75, 76, 77, 78, 79]
@[simp] theorem ref16_Valid_c38_eq {K : AK} {env : Env} {H : AHeap} : aw PP ref16_Valid_c38 K env H = awOps PP [⟨some 75, none, .fa 1 1 (.t 5)⟩, ⟨some 76, none, .ld false 1 (.t 75)⟩, ⟨some 77, none, .mov (.t 7)⟩, ⟨some 78, none, .ixa 4 (.t 76) (.t 77)⟩, ⟨some 79, none, .ld true 4 (.t 78)⟩, ⟨some 8, none, .alloc (.struct [.struct [.int (.i64) 0, .str [], .nils], .int (.i64) 0]) 49⟩, ⟨none, none, .st 4 (.t 8) (.t 79)⟩] (regK K [72, 75, 76, 77, 78, 79]) (panK K) env H := aw_reg _ _
def ref16_Valid_c39 : AC := .reg [⟨some 80, none, .fa 1 3 (.t 8)⟩, ⟨some 81, none, .ld false 1 (.t 80)⟩, ⟨some 82, none, .bin (.lss) (.t 81) (.c (.int (.i64) 0))⟩, ⟨some 83, none, .mov (.t 82)⟩, ⟨some 84, some (83, false), .fa 1 3 (.t 8)⟩, ⟨some 85, some (83, false), .ld false 1 (.t 84)⟩, ⟨some 86, some (83, false), .bin (.gtr) (.t 85) (.c (.int (.i64) 1000))⟩, ⟨some 87, none, .pick (.t 83) (.c (.bool true)) (.t 86)⟩, ⟨some 88, none, .mov (.t 87)⟩, ⟨some 89, some (88, false), .fa 0 0 (.t 8)⟩, ⟨some 90, some (88, false), .ld true 3 (.t 89)⟩, ⟨some 91, some (88, false), .call (.c (.fn (.func 37) [] [])) [.t 90, .c (.int (.i64) 30)]⟩, ⟨some 92, some (88, false), .not (.t 91)⟩, ⟨some 93, none, .pick (.t 88) (.c (.bool true)) (.t 92)⟩] [8, 80, 81, 82, 83, 84, 85, 86, 87, 88, 89, 90, 91, 92]
@[simp] theorem ref16_Valid_c39_eq {K : AK} {env : Env} {H : AHeap} : aw PP ref16_Valid_c39 K env H = awOps PP [⟨some 80, none, .fa 1 3 (.t 8)⟩, ⟨some 81, none, .ld false 1 (.t 80)⟩, ⟨some 82, none, .bin (.lss) (.t 81) (.c (.int (.i64) 0))⟩, ⟨some 83, none, .mov (.t 82)⟩, ⟨some 84, some (83, false), .fa 1 3 (.t 8)⟩, ⟨some 85, some (83, false), .ld false 1 (.t 84)⟩, ⟨some 86, some (83, false), .bin (.gtr) (.t 85) (.c (.int (.i64) 1000))⟩, ⟨some 87, none, .pick (.t 83) (.c (.bool true)) (.t 86)⟩, ⟨some 88, none, .mov (.t 87)⟩, ⟨some 89, some (88, false), .fa 0 0 (.t 8)⟩, ⟨some 90, some (88, false), .ld true 3 (.t 89)⟩, ⟨some 91, some (88, false), .call (.c (.fn (.func 37) [] [])) [.t 90, .c (.int (.i64) 30)]⟩, ⟨some 92, some (88, false), .not (.t 91)⟩, ⟨some 93, none, .pick (.t 88) (.c (.bool true)) (.t 92)⟩] (regK K [8, 80, 81, 82, 83, 84, 85, 86, 87, 88, 89, 90, 91, 92]) (panK K) env H := aw_reg _ _
def ref16_Valid_c40 : AC := .reg [⟨some 2, none, .mov (.c (.bool false))⟩] [1, 3, 4, 5, 7, 93]
@[simp] theorem ref16_Valid_c40_eq {K : AK} {env : Env} {H : AHeap} : aw PP ref16_Valid_c40 K env H = awOps PP [⟨some 2, none, .mov (.c (.bool false))⟩] (regK K [1, 3, 4, 5, 7, 93]) (panK K) env H := aw_reg _ _
def ref16_Valid_c41 : AC := .seq ref16_Valid_c40 .ret
@[simp] theorem ref16_Valid_c41_eq {K : AK} {env : Env} {H : AHeap} : aw PP ref16_Valid_c41 K env H = aw PP ref16_Valid_c40 (seqK PP .ret K) env H := aw_seq ref16_Valid_c40 .ret
def ref16_Valid_c42 : AC := .cond (.t 93) ref16_Valid_c41 .skip
@[simp] theorem ref16_Valid_c42_eq {K : AK} {env : Env} {H : AHeap} : aw PP ref16_Valid_c42 K env H = condQ PP (Opd.ev env (.t 93)) ref16_Valid_c41 .skip K env H := aw_cond _ ref16_Valid_c41 .skip
def ref16_Valid_c43 : AC := .seq ref16_Valid_c39 ref16_Valid_c42
@[simp] theorem ref16_Valid_c43_eq {K : AK} {env : Env} {H : AHeap} : aw PP ref16_Valid_c43 K env H = aw PP ref16_Valid_c39 (seqK PP ref16_Valid_c42 K) env H := aw_seq ref16_Valid_c39 ref16_Valid_c42
def ref16_Valid_c44 : AC := .seq ref16_Valid_c38 ref16_Valid_c43
@[simp] theorem ref16_Valid_c44_eq {K : AK} {env : Env} {H : AHeap} : aw PP ref16_Valid_c44 K env H = aw PP ref16_Valid_c38 (seqK PP ref16_Valid_c43 K) env H := aw_seq ref16_Valid_c38 ref16_Valid_c43
def ref16_Valid_c45 : AC := .block 5 ref16_Valid_c44
@[simp] theorem ref16_Valid_c45_eq {K : AK} {env : Env} {H : AHeap} : aw PP ref16_Valid_c45 K env H = aw PP ref16_Valid_c44 (blockK 5 K) env H := aw_block _ ref16_Valid_c44
def ref16_Valid_c46 : AC := .reg [⟨some 73, none, .mov (.t 7)⟩, ⟨some 74, none, .bin (.add) (.t 73) (.c (.int (.i64) 1))⟩, ⟨some 7, none, .mov (.t 74)⟩] [73, 74, 93]
@[simp] theorem ref16_Valid_c46_eq {K : AK} {env : Env} {H : AHeap} : aw PP ref16_Valid_c46 K env H = awOps PP [⟨some 73, none, .mov (.t 7)⟩, ⟨some 74, none, .bin (.add) (.t 73) (.c (.int (.i64) 1))⟩, ⟨some 7, none, .mov (.t 74)⟩] (regK K [73, 74, 93]) (panK K) env H := aw_reg _ _
def ref16_Valid_c47 : AC := .seq ref16_Valid_c45 ref16_Valid_c46
@[simp] theorem ref16_Valid_c47_eq {K : AK} {env : Env} {H : AHeap} : aw PP ref16_Valid_c47 K env H = aw PP ref16_Valid_c45 (seqK PP ref16_Valid_c46 K) env H := aw_seq ref16_Valid_c45 ref16_Valid_c46
def ref16_Valid_c48 : AC := .seq ref16_Valid_c37 ref16_Valid_c47
@[simp] theorem ref16_Valid_c48_eq {K : AK} {env : Env} {H : AHeap} : aw PP ref16_Valid_c48 K env H = aw PP ref16_Valid_c37 (seqK PP ref16_Valid_c47 K) env H := aw_seq ref16_Valid_c37 ref16_Valid_c47
def ref16_Valid_c49 : AC := .loop ref16_Valid_c48
def ref16_Valid_c50 : AC := .block 4 ref16_Valid_c49
@[simp] theorem ref16_Valid_c50_eq {K : AK} {env : Env} {H : AHeap} : aw PP ref16_Valid_c50 K env H = aw PP ref16_Valid_c49 (blockK 4 K) env H := aw_block _ ref16_Valid_c49
def ref16_Valid_c51 : AC := .seq ref16_Valid_c34 ref16_Valid_c50
@[simp] theorem ref16_Valid_c51_eq {K : AK} {env : Env} {H : AHeap} : aw PP ref16_Valid_c51 K env H = aw PP ref16_Valid_c34 (seqK PP ref16_Valid_c50 K) env H := aw_seq ref16_Valid_c34 ref16_Valid_c50
def ref16_Valid_c52 : AC := .seq ref16_Valid_c33 ref16_Valid_c51
@[simp] theorem ref16_Valid_c52_eq {K : AK} {env : Env} {H : AHeap} : aw PP ref16_Valid_c52 K env H = aw PP ref16_Valid_c33 (seqK PP ref16_Valid_c51 K) env H := aw_seq ref16_Valid_c33 ref16_Valid_c51
def ref16_Valid_c53 : AC := .seq ref16_Valid_c17 ref16_Valid_c52
@[simp] theorem ref16_Valid_c53_eq {K : AK} {env : Env} {H : AHeap} : aw PP ref16_Valid_c53 K env H = aw PP ref16_Valid_c17 (seqK PP ref16_Valid_c52 K) env H := aw_seq ref16_Valid_c17 ref16_Valid_c52
def ref16_Valid_c54 : AC := .seq ref16_Valid_c12 ref16_Valid_c53
@[simp] theorem ref16_Valid_c54_eq {K : AK} {env : Env} {H : AHeap} : aw PP ref16_Valid_c54 K env H = aw PP ref16_Valid_c12 (seqK PP ref16_Valid_c53 K) env H := aw_seq ref16_Valid_c12 ref16_Valid_c53
def ref16_Valid_c55 : AC := .seq ref16_Valid_c11 ref16_Valid_c54
@[simp] theorem ref16_Valid_c55_eq {K : AK} {env : Env} {H : AHeap} : aw PP ref16_Valid_c55 K env H = aw PP ref16_Valid_c11 (seqK PP ref16_Valid_c54 K) env H := aw_seq ref16_Valid_c11 ref16_Valid_c54
def ref16_Valid_c56 : AC := .block 1 ref16_Valid_c55
@[simp] theorem ref16_Valid_c56_eq {K : AK} {env : Env} {H : AHeap} : aw PP ref16_Valid_c56 K env H = aw PP ref16_Valid_c55 (blockK 1 K) env H := aw_block _ ref16_Valid_c55
def ref16_Valid_c57 : AC := .reg [⟨some 29, none, .mov (.t 4)⟩, ⟨some 30, none, .bin (.add) (.t 29) (.c (.int (.i64) 1))⟩, ⟨some 4, none, .mov (.t 30)⟩] [5, 7, 29, 30, 72]
@[simp] theorem ref16_Valid_c57_eq {K : AK} {env : Env} {H : AHeap} : aw PP ref16_Valid_c57 K env H = awOps PP [⟨some 29, none, .mov (.t 4)⟩, ⟨some 30, none, .bin (.add) (.t 29) (.c (.int (.i64) 1))⟩, ⟨some 4, none, .mov (.t 30)⟩] (regK K [5, 7, 29, 30, 72]) (panK K) env H := aw_reg _ _
def ref16_Valid_c58 : AC := .seq ref16_Valid_c56 ref16_Valid_c57
@[simp] theorem ref16_Valid_c58_eq {K : AK} {env : Env} {H : AHeap} : aw PP ref16_Valid_c58 K env H = aw PP ref16_Valid_c56 (seqK PP ref16_Valid_c57 K) env H := aw_seq ref16_Valid_c56 ref16_Valid_c57
def ref16_Valid_c59 : AC := .seq ref16_Valid_c10 ref16_Valid_c58
@[simp] theorem ref16_Valid_c59_eq {K : AK} {env : Env} {H : AHeap} : aw PP ref16_Valid_c59 K env H = aw PP ref16_Valid_c10 (seqK PP ref16_Valid_c58 K) env H := aw_seq ref16_Valid_c10 ref16_Valid_c58
def ref16_Valid_c60 : AC := .loop ref16_Valid_c59
def ref16_Valid_c61 : AC := .block 0 ref16_Valid_c60
@[simp] theorem ref16_Valid_c61_eq {K : AK} {env : Env} {H : AHeap} : aw PP ref16_Valid_c61 K env H = aw PP ref16_Valid_c60 (blockK 0 K) env H := aw_block _ ref16_Valid_c60
def ref16_Valid_c62 : AC := .seq ref16_Valid_c7 ref16_Valid_c61
@[simp] theorem ref16_Valid_c62_eq {K : AK} {env : Env} {H : AHeap} : aw PP ref16_Valid_c62 K env H = aw PP ref16_Valid_c7 (seqK PP ref16_Valid_c61 K) env H := aw_seq ref16_Valid_c7 ref16_Valid_c61
def ref16_Valid_c63 : AC := .reg [⟨some 9, none, .mov (.c (.nils))⟩] [4, 28]
@[simp] theorem ref16_Valid_c63_eq {K : AK} {env : Env} {H : AHeap} : aw PP ref16_Valid_c63 K env H = awOps PP [⟨some 9, none, .mov (.c (.nils))⟩] (regK K [4, 28]) (panK K) env H := aw_reg _ _
def ref16_Valid_c64 : AC := .reg [⟨some 10, none, .mov (.c (.int (.i64) 0))⟩] []
@[simp] theorem ref16_Valid_c64_eq {K : AK} {env : Env} {H : AHeap} : aw PP ref16_Valid_c64 K env H = awOps PP [⟨some 10, none, .mov (.c (.int (.i64) 0))⟩] (regK K []) (panK K) env H := aw_reg _ _
def ref16_Valid_c65 : AC := .reg [⟨some 94, none, .mov (.t 10)⟩, ⟨some 95, none, .fa 1 1 (.t 1)⟩, ⟨some 96, none, .ld false 1 (.t 95)⟩, ⟨some 97, none, .lenl (.t 96)⟩, ⟨some 98, none, .bin (.lss) (.t 94) (.t 97)⟩] [94, 95, 96, 97]
@[simp] theorem ref16_Valid_c65_eq {K : AK} {env : Env} {H : AHeap} : aw PP ref16_Valid_c65 K env H = awOps PP [⟨some 94, none, .mov (.t 10)⟩, ⟨some 95, none, .fa 1 1 (.t 1)⟩, ⟨some 96, none, .ld false 1 (.t 95)⟩, ⟨some 97, none, .lenl (.t 96)⟩, ⟨some 98, none, .bin (.lss) (.t 94) (.t 97)⟩] (regK K [94, 95, 96, 97]) (panK K) env H := aw_reg _ _
def ref16_Valid_c66 : AC := .cond (.t 98) .skip (.exit 6)
@[simp] theorem ref16_Valid_c66_eq {K : AK} {env : Env} {H : AHeap} : aw PP ref16_Valid_c66 K env H = condQ PP (Opd.ev env (.t 98)) .skip (.exit 6) K env H := aw_cond _ .skip (.exit 6)
def ref16_Valid_c67 : AC := .seq ref16_Valid_c65 ref16_Valid_c66
@[simp] theorem ref16_Valid_c67_eq {K : AK} {env : Env} {H : AHeap} : aw PP ref16_Valid_c67 K env H = aw PP ref16_Valid_c65 (seqK PP ref16_Valid_c66 K) env H := aw_seq ref16_Valid_c65 ref16_Valid_c66
def ref16_Valid_c68 : AC := .reg [⟨some 101, none, .fa 1 1 (.t 1)⟩, ⟨some 102, none, .ld false 1 (.t 101)⟩, ⟨some 103, none, .mov (.t 10)⟩, ⟨some 104, none, .ixa 2 (.t 102) (.t 103)⟩, ⟨some 105, none, .ld true 2 (.t 104)⟩, ⟨some 11, none, .alloc (.struct [.int (.i64) 0, .nils]) 64⟩, ⟨none, none, .st 2 (.t 11) (.t 105)⟩] [98, 101, 102, 103, 104, 105]
@[simp] theorem ref16_Valid_c68_eq {K : AK} {env : Env} {H : AHeap} : aw PP ref16_Valid_c68 K env H = awOps PP [⟨some 101, none, .fa 1 1 (.t 1)⟩, ⟨some 102, none, .ld false 1 (.t 101)⟩, ⟨some 103, none, .mov (.t 10)⟩, ⟨some 104, none, .ixa 2 (.t 102) (.t 103)⟩, ⟨some 105, none, .ld true 2 (.t 104)⟩, ⟨some 11, none, .alloc (.struct [.int (.i64) 0, .nils]) 64⟩, ⟨none, none, .st 2 (.t 11) (.t 105)⟩] (regK K [98, 101, 102, 103, 104, 105]) (panK K) env H := aw_reg _ _
def ref16_Valid_c69 : AC := .reg [⟨some 106, none, .fa 0 0 (.t 11)⟩, ⟨some 107, none, .ld false 1 (.t 106)⟩, ⟨some 108, none, .bin (.lss) (.t 107) (.c (.int (.i64) 1))⟩, ⟨some 109, none, .mov (.t 108)⟩, ⟨some 110, some (109, false), .fa 0 0 (.t 11)⟩, ⟨some 111, some (109, false), .ld false 1 (.t 110)⟩, ⟨some 112, some (109, false), .bin (.gtr) (.t 111) (.c (.int (.i64) 3))⟩, ⟨some 113, none, .pick (.t 109) (.c (.bool true)) (.t 112)⟩, ⟨some 114, none, .mov (.t 113)⟩, ⟨some 115, some (114, false), .fa 1 1 (.t 11)⟩, ⟨some 116, some (114, false), .ld false 1 (.t 115)⟩, ⟨some 117, some (114, false), .lenl (.t 116)⟩, ⟨some 118, some (114, false), .bin (.eql) (.t 117) (.c (.int (.i64) 0))⟩, ⟨some 119, none, .pick (.t 114) (.c (.bool true)) (.t 118)⟩] [106, 107, 108, 109, 110, 111, 112, 113, 114, 115, 116, 117, 118]
@[simp] theorem ref16_Valid_c69_eq {K : AK} {env : Env} {H : AHeap} : aw PP ref16_Valid_c69 K env H = awOps PP [⟨some 106, none, .fa 0 0 (.t 11)⟩, ⟨some 107, none, .ld false 1 (.t 106)⟩, ⟨some 108, none, .bin (.lss) (.t 107) (.c (.int (.i64) 1))⟩, ⟨some 109, none, .mov (.t 108)⟩, ⟨some 110, some (109, false), .fa 0 0 (.t 11)⟩, ⟨some 111, some (109, false), .ld false 1 (.t 110)⟩, ⟨some 112, some (109, false), .bin (.gtr) (.t 111) (.c (.int (.i64) 3))⟩, ⟨some 113, none, .pick (.t 109) (.c (.bool true)) (.t 112)⟩, ⟨some 114, none, .mov (.t 113)⟩, ⟨some 115, some (114, false), .fa 1 1 (.t 11)⟩, ⟨some 116, some (114, false), .ld false 1 (.t 115)⟩, ⟨some 117, some (114, false), .lenl (.t 116)⟩, ⟨some 118, some (114, false), .bin (.eql) (.t 117) (.c (.int (.i64) 0))⟩, ⟨some 119, none, .pick (.t 114) (.c (.bool true)) (.t 118)⟩] (regK K [106, 107, 108, 109, 110, 111, 112, 113, 114, 115, 116, 117, 118]) (panK K) env H := aw_reg _ _
def ref16_Valid_c70 : AC := .reg [⟨some 2, none, .mov (.c (.bool false))⟩] [1, 3, 9, 10, 11, 119]
@[simp] theorem ref16_Valid_c70_eq {K : AK} {env : Env} {H : AHeap} : aw PP ref16_Valid_c70 K env H = awOps PP [⟨some 2, none, .mov (.c (.bool false))⟩] (regK K [1, 3, 9, 10, 11, 119]) (panK K) env H := aw_reg _ _
def ref16_Valid_c71 : AC := .seq ref16_Valid_c70 .ret
@[simp] theorem ref16_Valid_c71_eq {K : AK} {env : Env} {H : AHeap} : aw PP ref16_Valid_c71 K env H = aw PP ref16_Valid_c70 (seqK PP .ret K) env H := aw_seq ref16_Valid_c70 .ret
def ref16_Valid_c72 : AC := .cond (.t 119) ref16_Valid_c71 .skip
@[simp] theorem ref16_Valid_c72_eq {K : AK} {env : Env} {H : AHeap} : aw PP ref16_Valid_c72 K env H = condQ PP (Opd.ev env (.t 119)) ref16_Valid_c71 .skip K env H := aw_cond _ ref16_Valid_c71 .skip
def ref16_Valid_c73 : AC := .seq ref16_Valid_c69 ref16_Valid_c72
@[simp] theorem ref16_Valid_c73_eq {K : AK} {env : Env} {H : AHeap} : aw PP ref16_Valid_c73 K env H = aw PP ref16_Valid_c69 (seqK PP ref16_Valid_c72 K) env H := aw_seq ref16_Valid_c69 ref16_Valid_c72
def ref16_Valid_c74 : AC := .reg [⟨some 12, none, .mov (.c (.int (.i64) 0))⟩] [119]
@[simp] theorem ref16_Valid_c74_eq {K : AK} {env : Env} {H : AHeap} : aw PP ref16_Valid_c74 K env H = awOps PP [⟨some 12, none, .mov (.c (.int (.i64) 0))⟩] (regK K [119]) (panK K) env H := aw_reg _ _
def ref16_Valid_c75 : AC := .reg [⟨some 120, none, .mov (.t 12)⟩, ⟨some 121, none, .fa 1 1 (.t 11)⟩, ⟨some 122, none, .ld false 1 (.t 121)⟩, ⟨some 123, none, .lenl (.t 122)⟩, ⟨some 124, none, .bin (.lss) (.t 120) (.t 123)⟩] [120, 121, 122, 123]
@[simp] theorem ref16_Valid_c75_eq {K : AK} {env : Env} {H : AHeap} : aw PP ref16_Valid_c75 K env H = awOps PP [⟨some 120, none, .mov (.t 12)⟩, ⟨some 121, none, .fa 1 1 (.t 11)⟩, ⟨some 122, none, .ld false 1 (.t 121)⟩, ⟨some 123, none, .lenl (.t 122)⟩, ⟨some 124, none, .bin (.lss) (.t 120) (.t 123)⟩] (regK K [120, 121, 122, 123]) (panK K) env H := aw_reg _ _
def ref16_Valid_c76 : AC := .cond (.t 124) .skip (.exit 8)
@[simp] theorem ref16_Valid_c76_eq {K : AK} {env : Env} {H : AHeap} : aw PP ref16_Valid_c76 K env H = condQ PP (Opd.ev env (.t 124)) .skip (.exit 8) K env H := aw_cond _ .skip (.exit 8)
def ref16_Valid_c77 : AC := .seq ref16_Valid_c75 ref16_Valid_c76
@[simp] theorem ref16_Valid_c77_eq {K : AK} {env : Env} {H : AHeap} : aw PP ref16_Valid_c77 K env H = aw PP ref16_Valid_c75 (seqK PP ref16_Valid_c76 K) env H := aw_seq ref16_Valid_c75 ref16_Valid_c76
def ref16_Valid_c78 : AC := .reg [⟨some 13, none, .mov (.c (.int (.i64) 0))⟩] [124]
@[simp] theorem ref16_Valid_c78_eq {K : AK} {env : Env} {H : AHeap} : aw PP ref16_Valid_c78 K env H = awOps PP [⟨some 13, none, .mov (.c (.int (.i64) 0))⟩] (regK K [124]) (panK K) env H := aw_reg _ _
def ref16_Valid_c79 : AC := .reg [⟨some 127, none, .mov (.t 13)⟩, ⟨some 128, none, .mov (.t 9)⟩, ⟨some 129, none, .lenl (.t 128)⟩, ⟨some 130, none, .bin (.lss) (.t 127) (.t 129)⟩] [127, 128, 129]
@[simp] theorem ref16_Valid_c79_eq {K : AK} {env : Env} {H : AHeap} : aw PP ref16_Valid_c79 K env H = awOps PP [⟨some 127, none, .mov (.t 13)⟩, ⟨some 128, none, .mov (.t 9)⟩, ⟨some 129, none, .lenl (.t 128)⟩, ⟨some 130, none, .bin (.lss) (.t 127) (.t 129)⟩] (regK K [127, 128, 129]) (panK K) env H := aw_reg _ _
def ref16_Valid_c80 : AC := .cond (.t 130) .skip (.exit 10)
@[simp] theorem ref16_Valid_c80_eq {K : AK} {env : Env} {H : AHeap} : aw PP ref16_Valid_c80 K env H = condQ PP (Opd.ev env (.t 130)) .skip (.exit 10) K env H := aw_cond _ .skip (.exit 10)
def ref16_Valid_c81 : AC := .seq ref16_Valid_c79 ref16_Valid_c80
@[simp] theorem ref16_Valid_c81_eq {K : AK} {env : Env} {H : AHeap} : aw PP ref16_Valid_c81 K env H = aw PP ref16_Valid_c79 (seqK PP ref16_Valid_c80 K) env H := aw_seq ref16_Valid_c79 ref16_Valid_c80
def ref16_Valid_c82_ops : List (AI × List Nat) := [(⟨some 133, none, .mov (.t 9)⟩, []), (⟨some 134, none, .mov (.t 13)⟩, []), (⟨some 135, none, .ixa 1 (.t 133) (.t 134)⟩, [0, 1]), (⟨some 136, none, .ld false 1 (.t 135)⟩, [2]), (⟨some 137, none, .fa 1 1 (.t 11)⟩, []), (⟨some 138, none, .ld false 1 (.t 137)⟩, [4]), (⟨some 139, none, .mov (.t 12)⟩, []), (⟨some 140, none, .ixa 1 (.t 138) (.t 139)⟩, [5, 6]), (⟨some 141, none, .ld false 1 (.t 140)⟩, [7]), (⟨some 142, none, .bin (.eql) (.t 136) (.t 141)⟩, [3, 8])]
def ref16_Valid_c82 : AC := .dreg ref16_Valid_c82_ops [130, 133, 134, 135, 136, 137, 138, 139, 140, 141]
theorem ref16_Valid_c82_ok : lexOK ref16_Valid_c82_ops (fun i => [].contains i) = true := by kernel_rfl
theorem ref16_Valid_c82_lex {K : AK} {env : Env} {H : AHeap} (h : awLex PP (fun i => [].contains i) (regK K [130, 133, 134, 135, 136, 137, 138, 139, 140, 141]) (panK K) [(0, ⟨some 133, none, .mov (.t 9)⟩), (1, ⟨some 134, none, .mov (.t 13)⟩), (2, ⟨some 135, none, .ixa 1 (.t 133) (.t 134)⟩), (3, ⟨some 136, none, .ld false 1 (.t 135)⟩), (4, ⟨some 137, none, .fa 1 1 (.t 11)⟩), (5, ⟨some 138, none, .ld false 1 (.t 137)⟩), (6, ⟨some 139, none, .mov (.t 12)⟩), (7, ⟨some 140, none, .ixa 1 (.t 138) (.t 139)⟩), (8, ⟨some 141, none, .ld false 1 (.t 140)⟩), (9, ⟨some 142, none, .bin (.eql) (.t 136) (.t 141)⟩)] env H) : aw PP ref16_Valid_c82 K env H := aw_dreg_lex _ ref16_Valid_c82_ok h
def ref16_Valid_c83 : AC := .reg [⟨some 2, none, .mov (.c (.bool false))⟩] [1, 3, 9, 10, 11, 12, 13, 142]
@[simp] theorem ref16_Valid_c83_eq {K : AK} {env : Env} {H : AHeap} : aw PP ref16_Valid_c83 K env H = awOps PP [⟨some 2, none, .mov (.c (.bool false))⟩] (regK K [1, 3, 9, 10, 11, 12, 13, 142]) (panK K) env H := aw_reg _ _
def ref16_Valid_c84 : AC := .seq ref16_Valid_c83 .ret
@[simp] theorem ref16_Valid_c84_eq {K : AK} {env : Env} {H : AHeap} : aw PP ref16_Valid_c84 K env H = aw PP ref16_Valid_c83 (seqK PP .ret K) env H := aw_seq ref16_Valid_c83 .ret
def ref16_Valid_c85 : AC := .cond (.t 142) ref16_Valid_c84 .skip
@[simp] theorem ref16_Valid_c85_eq {K : AK} {env : Env} {H : AHeap} : aw PP ref16_Valid_c85 K env H = condQ PP (Opd.ev env (.t 142)) ref16_Valid_c84 .skip K env H := aw_cond _ ref16_Valid_c84 .skip
def ref16_Valid_c86 : AC := .seq ref16_Valid_c82 ref16_Valid_c85
@[simp] theorem ref16_Valid_c86_eq {K : AK} {env : Env} {H : AHeap} : aw PP ref16_Valid_c86 K env H = aw PP ref16_Valid_c82 (seqK PP ref16_Valid_c85 K) env H := aw_seq ref16_Valid_c82 ref16_Valid_c85
def ref16_Valid_c87 : AC := .block 11 ref16_Valid_c86
@[simp] theorem ref16_Valid_c87_eq {K : AK} {env : Env} {H : AHeap} : aw PP ref16_Valid_c87 K env H = aw PP ref16_Valid_c86 (blockK 11 K) env H := aw_block _ ref16_Valid_c86
def ref16_Valid_c88 : AC := .reg [⟨some 131, none, .mov (.t 13)⟩, ⟨some 132, none, .bin (.add) (.t 131) (.c (.int (.i64) 1))⟩, ⟨some 13, none, .mov (.t 132)⟩] [131, 132, 142]
@[simp] theorem ref16_Valid_c88_eq {K : AK} {env : Env} {H : AHeap} : aw PP ref16_Valid_c88 K env H = awOps PP [⟨some 131, none, .mov (.t 13)⟩, ⟨some 132, none, .bin (.add) (.t 131) (.c (.int (.i64) 1))⟩, ⟨some 13, none, .mov (.t 132)⟩] (regK K [131, 132, 142]) (panK K) env H := aw_reg _ _
def ref16_Valid_c89 : AC := .seq ref16_Valid_c87 ref16_Valid_c88
@[simp] theorem ref16_Valid_c89_eq {K : AK} {env : Env} {H : AHeap} : aw PP ref16_Valid_c89 K env H = aw PP ref16_Valid_c87 (seqK PP ref16_Valid_c88 K) env H := aw_seq ref16_Valid_c87 ref16_Valid_c88
def ref16_Valid_c90 : AC := .seq ref16_Valid_c81 ref16_Valid_c89
@[simp] theorem ref16_Valid_c90_eq {K : AK} {env : Env} {H : AHeap} : aw PP ref16_Valid_c90 K env H = aw PP ref16_Valid_c81 (seqK PP ref16_Valid_c89 K) env H := aw_seq ref16_Valid_c81 ref16_Valid_c89
def ref16_Valid_c91 : AC := .loop ref16_Valid_c90
def ref16_Valid_c92 : AC := .block 10 ref16_Valid_c91
@[simp] theorem ref16_Valid_c92_eq {K : AK} {env : Env} {H : AHeap} : aw PP ref16_Valid_c92 K env H = aw PP ref16_Valid_c91 (blockK 10 K) env H := aw_block _ ref16_Valid_c91
def ref16_Valid_c93 : AC := .seq ref16_Valid_c78 ref16_Valid_c92
@[simp] theorem ref16_Valid_c93_eq {K : AK} {env : Env} {H : AHeap} : aw PP ref16_Valid_c93 K env H = aw PP ref16_Valid_c78 (seqK PP ref16_Valid_c92 K) env H := aw_seq ref16_Valid_c78 ref16_Valid_c92
def ref16_Valid_c94 : AC := .reg [⟨some 143, none, .fa 1 1 (.t 11)⟩, ⟨some 144, none, .ld false 1 (.t 143)⟩, ⟨some 145, none, .mov (.t 12)⟩, ⟨some 146, none, .ixa 1 (.t 144) (.t 145)⟩, ⟨some 147, none, .ld false 1 (.t 146)⟩, ⟨some 148, none, .call (.c (.fn (.func 36) [] [])) [.t 147]⟩, ⟨some 149, none, .not (.t 148)⟩] [13, 130, 143, 144, 145, 146, 147, 148]
@[simp] theorem ref16_Valid_c94_eq {K : AK} {env : Env} {H : AHeap} : aw PP ref16_Valid_c94 K env H = awOps PP [⟨some 143, none, .fa 1 1 (.t 11)⟩, ⟨some 144, none, .ld false 1 (.t 143)⟩, ⟨some 145, none, .mov (.t 12)⟩, ⟨some 146, none, .ixa 1 (.t 144) (.t 145)⟩, ⟨some 147, none, .ld false 1 (.t 146)⟩, ⟨some 148, none, .call (.c (.fn (.func 36) [] [])) [.t 147]⟩, ⟨some 149, none, .not (.t 148)⟩] (regK K [13, 130, 143, 144, 145, 146, 147, 148]) (panK K) env H := aw_reg _ _
def ref16_Valid_c95 : AC := .reg [⟨some 2, none, .mov (.c (.bool false))⟩] [1, 3, 9, 10, 11, 12, 149]
@[simp] theorem ref16_Valid_c95_eq {K : AK} {env : Env} {H : AHeap} : aw PP ref16_Valid_c95 K env H = awOps PP [⟨some 2, none, .mov (.c (.bool false))⟩] (regK K [1, 3, 9, 10, 11, 12, 149]) (panK K) env H := aw_reg _ _
def ref16_Valid_c96 : AC := .seq ref16_Valid_c95 .ret
@[simp] theorem ref16_Valid_c96_eq {K : AK} {env : Env} {H : AHeap} : aw PP ref16_Valid_c96 K env H = aw PP ref16_Valid_c95 (seqK PP .ret K) env H := aw_seq ref16_Valid_c95 .ret
def ref16_Valid_c97 : AC := .cond (.t 149) ref16_Valid_c96 .skip
@[simp] theorem ref16_Valid_c97_eq {K : AK} {env : Env} {H : AHeap} : aw PP ref16_Valid_c97 K env H = condQ PP (Opd.ev env (.t 149)) ref16_Valid_c96 .skip K env H := aw_cond _ ref16_Valid_c96 .skip
def ref16_Valid_c98 : AC := .seq ref16_Valid_c94 ref16_Valid_c97
@[simp] theorem ref16_Valid_c98_eq {K : AK} {env : Env} {H : AHeap} : aw PP ref16_Valid_c98 K env H = aw PP ref16_Valid_c94 (seqK PP ref16_Valid_c97 K) env H := aw_seq ref16_Valid_c94 ref16_Valid_c97
def ref16_Valid_c99 : AC := .reg [⟨some 150, none, .mov (.t 9)⟩, ⟨some 151, none, .fa 1 1 (.t 11)⟩, ⟨some 152, none, .ld false 1 (.t 151)⟩, ⟨some 153, none, .mov (.t 12)⟩, ⟨some 154, none, .ixa 1 (.t 152) (.t 153)⟩, ⟨some 155, none, .ld false 1 (.t 154)⟩, ⟨some 156, none, .bsl false 9 1 1 (.str []) [(0, .t 155)]⟩, ⟨some 157, none, .app 9 1 16 (.t 150) (.t 156)⟩, ⟨some 9, none, .mov (.t 157)⟩] [149, 150, 151, 152, 153, 154, 155, 156, 157]
@[simp] theorem ref16_Valid_c99_eq {K : AK} {env : Env} {H : AHeap} : aw PP ref16_Valid_c99 K env H = awOps PP [⟨some 150, none, .mov (.t 9)⟩, ⟨some 151, none, .fa 1 1 (.t 11)⟩, ⟨some 152, none, .ld false 1 (.t 151)⟩, ⟨some 153, none, .mov (.t 12)⟩, ⟨some 154, none, .ixa 1 (.t 152) (.t 153)⟩, ⟨some 155, none, .ld false 1 (.t 154)⟩, ⟨some 156, none, .bsl false 9 1 1 (.str []) [(0, .t 155)]⟩, ⟨some 157, none, .app 9 1 16 (.t 150) (.t 156)⟩, ⟨some 9, none, .mov (.t 157)⟩] (regK K [149, 150, 151, 152, 153, 154, 155, 156, 157]) (panK K) env H := aw_reg _ _
def ref16_Valid_c100 : AC := .seq ref16_Valid_c98 ref16_Valid_c99
@[simp] theorem ref16_Valid_c100_eq {K : AK} {env : Env} {H : AHeap} : aw PP ref16_Valid_c100 K env H = aw PP ref16_Valid_c98 (seqK PP ref16_Valid_c99 K) env H := aw_seq ref16_Valid_c98 ref16_Valid_c99
def ref16_Valid_c101 : AC := .seq ref16_Valid_c93 ref16_Valid_c100
@[simp] theorem ref16_Valid_c101_eq {K : AK} {env : Env} {H : AHeap} : aw PP ref16_Valid_c101 K env H = aw PP ref16_Valid_c93 (seqK PP ref16_Valid_c100 K) env H := aw_seq ref16_Valid_c93 ref16_Valid_c100
def ref16_Valid_c102 : AC := .block 9 ref16_Valid_c101
@[simp] theorem ref16_Valid_c102_eq {K : AK} {env : Env} {H : AHeap} : aw PP ref16_Valid_c102 K env H = aw PP ref16_Valid_c101 (blockK 9 K) env H := aw_block _ ref16_Valid_c101
def ref16_Valid_c103 : AC := .reg [⟨some 125, none, .mov (.t 12)⟩, ⟨some 126, none, .bin (.add) (.t 125) (.c (.int (.i64) 1))⟩, ⟨some 12, none, .mov (.t 126)⟩] [125, 126]
@[simp] theorem ref16_Valid_c103_eq {K : AK} {env : Env} {H : AHeap} : aw PP ref16_Valid_c103 K env H = awOps PP [⟨some 125, none, .mov (.t 12)⟩, ⟨some 126, none, .bin (.add) (.t 125) (.c (.int (.i64) 1))⟩, ⟨some 12, none, .mov (.t 126)⟩] (regK K [125, 126]) (panK K) env H := aw_reg _ _
def ref16_Valid_c104 : AC := .seq ref16_Valid_c102 ref16_Valid_c103
@[simp] theorem ref16_Valid_c104_eq {K : AK} {env : Env} {H : AHeap} : aw PP ref16_Valid_c104 K env H = aw PP ref16_Valid_c102 (seqK PP ref16_Valid_c103 K) env H := aw_seq ref16_Valid_c102 ref16_Valid_c103
def ref16_Valid_c105 : AC := .seq ref16_Valid_c77 ref16_Valid_c104
@[simp] theorem ref16_Valid_c105_eq {K : AK} {env : Env} {H : AHeap} : aw PP ref16_Valid_c105 K env H = aw PP ref16_Valid_c77 (seqK PP ref16_Valid_c104 K) env H := aw_seq ref16_Valid_c77 ref16_Valid_c104
def ref16_Valid_c106 : AC := .loop ref16_Valid_c105
def ref16_Valid_c107 : AC := .block 8 ref16_Valid_c106
@[simp] theorem ref16_Valid_c107_eq {K : AK} {env : Env} {H : AHeap} : aw PP ref16_Valid_c107 K env H = aw PP ref16_Valid_c106 (blockK 8 K) env H := aw_block _ ref16_Valid_c106
def ref16_Valid_c108 : AC := .seq ref16_Valid_c74 ref16_Valid_c107
@[simp] theorem ref16_Valid_c108_eq {K : AK} {env : Env} {H : AHeap} : aw PP ref16_Valid_c108 K env H = aw PP ref16_Valid_c74 (seqK PP ref16_Valid_c107 K) env H := aw_seq ref16_Valid_c74 ref16_Valid_c107
def ref16_Valid_c109 : AC := .seq ref16_Valid_c73 ref16_Valid_c108
@[simp] theorem ref16_Valid_c109_eq {K : AK} {env : Env} {H : AHeap} : aw PP ref16_Valid_c109 K env H = aw PP ref16_Valid_c73 (seqK PP ref16_Valid_c108 K) env H := aw_seq ref16_Valid_c73 ref16_Valid_c108
def ref16_Valid_c110 : AC := .seq ref16_Valid_c68 ref16_Valid_c109
@[simp] theorem ref16_Valid_c110_eq {K : AK} {env : Env} {H : AHeap} : aw PP ref16_Valid_c110 K env H = aw PP ref16_Valid_c68 (seqK PP ref16_Valid_c109 K) env H := aw_seq ref16_Valid_c68 ref16_Valid_c109
def ref16_Valid_c111 : AC := .block 7 ref16_Valid_c110
@[simp] theorem ref16_Valid_c111_eq {K : AK} {env : Env} {H : AHeap} : aw PP ref16_Valid_c111 K env H = aw PP ref16_Valid_c110 (blockK 7 K) env H := aw_block _ ref16_Valid_c110
def ref16_Valid_c112 : AC := .reg [⟨some 99, none, .mov (.t 10)⟩, ⟨some 100, none, .bin (.add) (.t 99) (.c (.int (.i64) 1))⟩, ⟨some 10, none, .mov (.t 100)⟩] [11, 12, 99, 100, 124]
@[simp] theorem ref16_Valid_c112_eq {K : AK} {env : Env} {H : AHeap} : aw PP ref16_Valid_c112 K env H = awOps PP [⟨some 99, none, .mov (.t 10)⟩, ⟨some 100, none, .bin (.add) (.t 99) (.c (.int (.i64) 1))⟩, ⟨some 10, none, .mov (.t 100)⟩] (regK K [11, 12, 99, 100, 124]) (panK K) env H := aw_reg _ _
def ref16_Valid_c113 : AC := .seq ref16_Valid_c111 ref16_Valid_c112
@[simp] theorem ref16_Valid_c113_eq {K : AK} {env : Env} {H : AHeap} : aw PP ref16_Valid_c113 K env H = aw PP ref16_Valid_c111 (seqK PP ref16_Valid_c112 K) env H := aw_seq ref16_Valid_c111 ref16_Valid_c112
def ref16_Valid_c114 : AC := .seq ref16_Valid_c67 ref16_Valid_c113
@[simp] theorem ref16_Valid_c114_eq {K : AK} {env : Env} {H : AHeap} : aw PP ref16_Valid_c114 K env H = aw PP ref16_Valid_c67 (seqK PP ref16_Valid_c113 K) env H := aw_seq ref16_Valid_c67 ref16_Valid_c113
def ref16_Valid_c115 : AC := .loop ref16_Valid_c114
def ref16_Valid_c116 : AC := .block 6 ref16_Valid_c115
@[simp] theorem ref16_Valid_c116_eq {K : AK} {env : Env} {H : AHeap} : aw PP ref16_Valid_c116 K env H = aw PP ref16_Valid_c115 (blockK 6 K) env H := aw_block _ ref16_Valid_c115
def ref16_Valid_c117 : AC := .seq ref16_Valid_c64 ref16_Valid_c116
@[simp] theorem ref16_Valid_c117_eq {K : AK} {env : Env} {H : AHeap} : aw PP ref16_Valid_c117 K env H = aw PP ref16_Valid_c64 (seqK PP ref16_Valid_c116 K) env H := aw_seq ref16_Valid_c64 ref16_Valid_c116
def ref16_Valid_c118 : AC := .reg [⟨some 158, none, .mov (.t 3)⟩, ⟨some 2, none, .mov (.t 158)⟩] [1, 3, 9, 10, 98, 158]
@[simp] theorem ref16_Valid_c118_eq {K : AK} {env : Env} {H : AHeap} : aw PP ref16_Valid_c118 K env H = awOps PP [⟨some 158, none, .mov (.t 3)⟩, ⟨some 2, none, .mov (.t 158)⟩] (regK K [1, 3, 9, 10, 98, 158]) (panK K) env H := aw_reg _ _
def ref16_Valid_c119 : AC := .seq ref16_Valid_c118 .ret
@[simp] theorem ref16_Valid_c119_eq {K : AK} {env : Env} {H : AHeap} : aw PP ref16_Valid_c119 K env H = aw PP ref16_Valid_c118 (seqK PP .ret K) env H := aw_seq ref16_Valid_c118 .ret
def ref16_Valid_c120 : AC := .seq ref16_Valid_c117 ref16_Valid_c119
@[simp] theorem ref16_Valid_c120_eq {K : AK} {env : Env} {H : AHeap} : aw PP ref16_Valid_c120 K env H = aw PP ref16_Valid_c117 (seqK PP ref16_Valid_c119 K) env H := aw_seq ref16_Valid_c117 ref16_Valid_c119
def ref16_Valid_c121 : AC := .seq ref16_Valid_c63 ref16_Valid_c120
@[simp] theorem ref16_Valid_c121_eq {K : AK} {env : Env} {H : AHeap} : aw PP ref16_Valid_c121 K env H = aw PP ref16_Valid_c63 (seqK PP ref16_Valid_c120 K) env H := aw_seq ref16_Valid_c63 ref16_Valid_c120
def ref16_Valid_c122 : AC := .seq ref16_Valid_c62 ref16_Valid_c121
@[simp] theorem ref16_Valid_c122_eq {K : AK} {env : Env} {H : AHeap} : aw PP ref16_Valid_c122 K env H = aw PP ref16_Valid_c62 (seqK PP ref16_Valid_c121 K) env H := aw_seq ref16_Valid_c62 ref16_Valid_c121
def ref16_Valid_c123 : AC := .seq ref16_Valid_c6 ref16_Valid_c122
@[simp] theorem ref16_Valid_c123_eq {K : AK} {env : Env} {H : AHeap} : aw PP ref16_Valid_c123 K env H = aw PP ref16_Valid_c6 (seqK PP ref16_Valid_c122 K) env H := aw_seq ref16_Valid_c6 ref16_Valid_c122
def ref16_Valid_c124 : AC := .seq ref16_Valid_c5 ref16_Valid_c123
@[simp] theorem ref16_Valid_c124_eq {K : AK} {env : Env} {H : AHeap} : aw PP ref16_Valid_c124 K env H = aw PP ref16_Valid_c5 (seqK PP ref16_Valid_c123 K) env H := aw_seq ref16_Valid_c5 ref16_Valid_c123
def ref16_Valid_c125 : AC := .seq ref16_Valid_c0 ref16_Valid_c124
@[simp] theorem ref16_Valid_c125_eq {K : AK} {env : Env} {H : AHeap} : aw PP ref16_Valid_c125 K env H = aw PP ref16_Valid_c0 (seqK PP ref16_Valid_c124 K) env H := aw_seq ref16_Valid_c0 ref16_Valid_c124
def ref16_Valid_ac : AC := ref16_Valid_c125
@[simp] theorem ref16_Valid_ac_eq {K : AK} {env : Env} {H : AHeap} : aw PP ref16_Valid_ac K env H = aw PP ref16_Valid_c125 K env H := Eq.trans rfl rfl
def ref16_Valid_rs : List ARV := [.tmp 2]
abbrev ref16_Valid_id : Nat := 15
theorem ref16_Valid_comp : compF PP ref16_Valid_kl ref16_Valid_ow 1 Try.f15 = some (ref16_Valid_ac, ref16_Valid_rs) := by kernel_rfl
theorem ref16_Valid_enter {args : List AV} {H : AHeap} {post : ARes → AHeap → Prop} (ha : args.length = 1) (h : aw PP ref16_Valid_ac (retK ref16_Valid_rs post) (argEnv 0 args) H) : ACalls PP ref16_Valid_id args H post := .enterF Try.func15 PP_mix ref16_Valid_comp ha h

end Go.Av
