/- Functions of the given program, compiled to the own form by program. -/
import Derived.Test.YtidbbhdejopdgaaProg
import Derived.KernelRfl
import Derived.Test.YtidbbhdejopdgaaAvF
import Derived.Test.YtidbbhdejopdgaaFns1
set_option linter.unusedVariables false
set_option linter.unusedSimpArgs false
namespace Go.Av
open Go Go.Proofs
/-! emendate.emendateref16.Equal -/
def ref16_Equal_kl : Nat → List Nat
  | 0 => [0, 1, 4]
  | 1 => [9, 10, 11, 12, 13, 14, 15, 16, 17, 18, 19, 20, 21, 22, 23, 24, 25, 26, 27, 28, 29]
  | 2 => [2, 3, 30]
  | 3 => [30]
  | 4 => [31, 32, 33, 34]
  | 5 => [6, 7, 8, 36, 37, 66]
  | 6 => [35, 38, 39, 40, 41, 42, 43, 44, 45, 46, 47]
  | 7 => [48, 49, 50, 51, 52, 53, 54, 55, 56, 57, 58, 59, 60]
  | 8 => [2, 3, 5, 6, 7, 61]
  | 9 => [61]
  | 10 => [62, 63, 64, 65]
  | 11 => [67, 68, 97]
  | 12 => [66, 69, 70, 71, 72, 73, 74, 75, 76, 77, 78, 79, 80, 81, 82, 83, 84, 85, 86, 87, 88, 89, 90, 91, 92, 93, 94, 95, 96]
  | 13 => [2, 3, 5, 6, 7, 8, 97]
  | 14 => [2, 3, 5, 35]
  | _ => []
def ref16_Equal_ow : Nat → Nat → Bool := fun _ _ => false
def ref16_Equal_c0 : AC := .reg [⟨some 2, none, .box (.t 0) 3 26⟩, ⟨some 3, none, .box (.t 1) 3 26⟩, ⟨some 4, none, .mov (.c (.bool false))⟩] [0, 1, 4]
@[simp] theorem ref16_Equal_c0_eq {K : AK} {env : Env} {H : AHeap} : aw PP ref16_Equal_c0 K env H = awOps PP [⟨some 2, none, .box (.t 0) 3 26⟩, ⟨some 3, none, .box (.t 1) 3 26⟩, ⟨some 4, none, .mov (.c (.bool false))⟩] (regK K [0, 1, 4]) (panK K) env H := aw_reg _ _
def ref16_Equal_c1 : AC := .reg [⟨some 9, none, .fa 0 0 (.t 2)⟩, ⟨some 10, none, .ld false 1 (.t 9)⟩, ⟨some 11, none, .fa 0 0 (.t 3)⟩, ⟨some 12, none, .ld false 1 (.t 11)⟩, ⟨some 13, none, .bin (.neq) (.t 10) (.t 12)⟩, ⟨some 14, none, .mov (.t 13)⟩, ⟨some 15, some (14, false), .fa 1 1 (.t 2)⟩, ⟨some 16, some (14, false), .ld false 1 (.t 15)⟩, ⟨some 17, some (14, false), .fa 1 1 (.t 3)⟩, ⟨some 18, some (14, false), .ld false 1 (.t 17)⟩, ⟨some 19, some (14, false), .call (.c (.fn (.func 32) [] [])) [.t 16, .t 18]⟩, ⟨some 20, some (14, false), .not (.t 19)⟩, ⟨some 21, none, .pick (.t 14) (.c (.bool true)) (.t 20)⟩, ⟨some 22, none, .mov (.t 21)⟩, ⟨some 23, some (22, false), .fa 2 2 (.t 2)⟩, ⟨some 24, some (22, false), .ld false 1 (.t 23)⟩, ⟨some 25, some (22, false), .lenl (.t 24)⟩, ⟨some 26, some (22, false), .fa 2 2 (.t 3)⟩, ⟨some 27, some (22, false), .ld false 1 (.t 26)⟩, ⟨some 28, some (22, false), .lenl (.t 27)⟩, ⟨some 29, some (22, false), .bin (.neq) (.t 25) (.t 28)⟩, ⟨some 30, none, .pick (.t 22) (.c (.bool true)) (.t 29)⟩] [9, 10, 11, 12, 13, 14, 15, 16, 17, 18, 19, 20, 21, 22, 23, 24, 25, 26, 27, 28, 29]
@[simp] theorem ref16_Equal_c1_eq {K : AK} {env : Env} {H : AHeap} : aw PP ref16_Equal_c1 K env H = awOps PP [⟨some 9, none, .fa 0 0 (.t 2)⟩, ⟨some 10, none, .ld false 1 (.t 9)⟩, ⟨some 11, none, .fa 0 0 (.t 3)⟩, ⟨some 12, none, .ld false 1 (.t 11)⟩, ⟨some 13, none, .bin (.neq) (.t 10) (.t 12)⟩, ⟨some 14, none, .mov (.t 13)⟩, ⟨some 15, some (14, false), .fa 1 1 (.t 2)⟩, ⟨some 16, some (14, false), .ld false 1 (.t 15)⟩, ⟨some 17, some (14, false), .fa 1 1 (.t 3)⟩, ⟨some 18, some (14, false), .ld false 1 (.t 17)⟩, ⟨some 19, some (14, false), .call (.c (.fn (.func 32) [] [])) [.t 16, .t 18]⟩, ⟨some 20, some (14, false), .not (.t 19)⟩, ⟨some 21, none, .pick (.t 14) (.c (.bool true)) (.t 20)⟩, ⟨some 22, none, .mov (.t 21)⟩, ⟨some 23, some (22, false), .fa 2 2 (.t 2)⟩, ⟨some 24, some (22, false), .ld false 1 (.t 23)⟩, ⟨some 25, some (22, false), .lenl (.t 24)⟩, ⟨some 26, some (22, false), .fa 2 2 (.t 3)⟩, ⟨some 27, some (22, false), .ld false 1 (.t 26)⟩, ⟨some 28, some (22, false), .lenl (.t 27)⟩, ⟨some 29, some (22, false), .bin (.neq) (.t 25) (.t 28)⟩, ⟨some 30, none, .pick (.t 22) (.c (.bool true)) (.t 29)⟩] (regK K [9, 10, 11, 12, 13, 14, 15, 16, 17, 18, 19, 20, 21, 22, 23, 24, 25, 26, 27, 28, 29]) (panK K) env H := aw_reg _ _
def ref16_Equal_c2 : AC := .reg [⟨some 4, none, .mov (.c (.bool false))⟩] [2, 3, 30]
@[simp] theorem ref16_Equal_c2_eq {K : AK} {env : Env} {H : AHeap} : aw PP ref16_Equal_c2 K env H = awOps PP [⟨some 4, none, .mov (.c (.bool false))⟩] (regK K [2, 3, 30]) (panK K) env H := aw_reg _ _
def ref16_Equal_c3 : AC := .seq ref16_Equal_c2 .ret
@[simp] theorem ref16_Equal_c3_eq {K : AK} {env : Env} {H : AHeap} : aw PP ref16_Equal_c3 K env H = aw PP ref16_Equal_c2 (seqK PP .ret K) env H := aw_seq ref16_Equal_c2 .ret
def ref16_Equal_c4 : AC := .cond (.t 30) ref16_Equal_c3 .skip
@[simp] theorem ref16_Equal_c4_eq {K : AK} {env : Env} {H : AHeap} : aw PP ref16_Equal_c4 K env H = condQ PP (Opd.ev env (.t 30)) ref16_Equal_c3 .skip K env H := aw_cond _ ref16_Equal_c3 .skip
def ref16_Equal_c5 : AC := .seq ref16_Equal_c1 ref16_Equal_c4
@[simp] theorem ref16_Equal_c5_eq {K : AK} {env : Env} {H : AHeap} : aw PP ref16_Equal_c5 K env H = aw PP ref16_Equal_c1 (seqK PP ref16_Equal_c4 K) env H := aw_seq ref16_Equal_c1 ref16_Equal_c4
def ref16_Equal_c6 : AC := .reg [⟨some 5, none, .mov (.c (.int (.i64) 0))⟩] [30]
@[simp] theorem ref16_Equal_c6_eq {K : AK} {env : Env} {H : AHeap} : aw PP ref16_Equal_c6 K env H = awOps PP [⟨some 5, none, .mov (.c (.int (.i64) 0))⟩] (regK K [30]) (panK K) env H := aw_reg _ _
def ref16_Equal_c7 : AC := .reg [⟨some 31, none, .mov (.t 5)⟩, ⟨some 32, none, .fa 2 2 (.t 2)⟩, ⟨some 33, none, .ld false 1 (.t 32)⟩, ⟨some 34, none, .lenl (.t 33)⟩, ⟨some 35, none, .bin (.lss) (.t 31) (.t 34)⟩] [31, 32, 33, 34]
@[simp] theorem ref16_Equal_c7_eq {K : AK} {env : Env} {H : AHeap} : aw PP ref16_Equal_c7 K env H = awOps PP [⟨some 31, none, .mov (.t 5)⟩, ⟨some 32, none, .fa 2 2 (.t 2)⟩, ⟨some 33, none, .ld false 1 (.t 32)⟩, ⟨some 34, none, .lenl (.t 33)⟩, ⟨some 35, none, .bin (.lss) (.t 31) (.t 34)⟩] (regK K [31, 32, 33, 34]) (panK K) env H := aw_reg _ _
def ref16_Equal_c8 : AC := .cond (.t 35) .skip (.exit 0)
@[simp] theorem ref16_Equal_c8_eq {K : AK} {env : Env} {H : AHeap} : aw PP ref16_Equal_c8 K env H = condQ PP (Opd.ev env (.t 35)) .skip (.exit 0) K env H := aw_cond _ .skip (.exit 0)
def ref16_Equal_c9 : AC := .seq ref16_Equal_c7 ref16_Equal_c8
@[simp] theorem ref16_Equal_c9_eq {K : AK} {env : Env} {H : AHeap} : aw PP ref16_Equal_c9 K env H = aw PP ref16_Equal_c7 (seqK PP ref16_Equal_c8 K) env H := aw_seq ref16_Equal_c7 ref16_Equal_c8
def ref16_Equal_c10_ops : List (AI × List Nat) := [(⟨some 38, none, .fa 2 2 (.t 2)⟩, []), (⟨some 39, none, .ld false 1 (.t 38)⟩, [0]), (⟨some 40, none, .mov (.t 5)⟩, []), (⟨some 41, none, .ixa 2 (.t 39) (.t 40)⟩, [1, 2]), (⟨some 42, none, .ld true 2 (.t 41)⟩, [3]), (⟨some 43, none, .fa 2 2 (.t 3)⟩, []), (⟨some 44, none, .ld false 1 (.t 43)⟩, [5]), (⟨some 45, none, .mov (.t 5)⟩, []), (⟨some 46, none, .ixa 2 (.t 44) (.t 45)⟩, [6, 7]), (⟨some 47, none, .ld true 2 (.t 46)⟩, [8]), (⟨some 6, none, .alloc (.struct [.str [], .nils]) 44⟩, []), (⟨some 7, none, .alloc (.struct [.str [], .nils]) 44⟩, []), (⟨none, none, .st 2 (.t 6) (.t 42)⟩, [10, 4, 0, 1, 2, 3, 4, 10, 11]), (⟨none, none, .st 2 (.t 7) (.t 47)⟩, [11, 9, 12, 0, 1, 2, 3, 4, 5, 6, 7, 8, 9, 10, 11, 12])]
def ref16_Equal_c10 : AC := .dreg ref16_Equal_c10_ops [35, 38, 39, 40, 41, 42, 43, 44, 45, 46, 47]
theorem ref16_Equal_c10_okF : lexOKF ref16_Equal_c10_ops 13 (fun i => [10, 11, 12, 13].contains i) = true := by kernel_rfl
theorem ref16_Equal_c10_lexF {K : AK} {env : Env} {H : AHeap} (B : List Nat) (h : awLexF PP 13 (fun i => [10, 11, 12, 13].contains i) B H (regK K [35, 38, 39, 40, 41, 42, 43, 44, 45, 46, 47]) (panK K) [(0, ⟨some 38, none, .fa 2 2 (.t 2)⟩), (1, ⟨some 39, none, .ld false 1 (.t 38)⟩), (2, ⟨some 40, none, .mov (.t 5)⟩), (3, ⟨some 41, none, .ixa 2 (.t 39) (.t 40)⟩), (4, ⟨some 42, none, .ld true 2 (.t 41)⟩), (5, ⟨some 43, none, .fa 2 2 (.t 3)⟩), (6, ⟨some 44, none, .ld false 1 (.t 43)⟩), (7, ⟨some 45, none, .mov (.t 5)⟩), (8, ⟨some 46, none, .ixa 2 (.t 44) (.t 45)⟩), (9, ⟨some 47, none, .ld true 2 (.t 46)⟩), (10, ⟨some 6, none, .alloc (.struct [.str [], .nils]) 44⟩), (11, ⟨some 7, none, .alloc (.struct [.str [], .nils]) 44⟩), (12, ⟨none, none, .st 2 (.t 6) (.t 42)⟩), (13, ⟨none, none, .st 2 (.t 7) (.t 47)⟩)] env H) : aw PP ref16_Equal_c10 K env H := aw_dreg_lexF _ _ B ref16_Equal_c10_okF h
def ref16_Equal_c11 : AC := .reg [⟨some 48, none, .fa 0 0 (.t 6)⟩, ⟨some 49, none, .ld false 1 (.t 48)⟩, ⟨some 50, none, .fa 0 0 (.t 7)⟩, ⟨some 51, none, .ld false 1 (.t 50)⟩, ⟨some 52, none, .bin (.neq) (.t 49) (.t 51)⟩, ⟨some 53, none, .mov (.t 52)⟩, ⟨some 54, some (53, false), .fa 1 1 (.t 6)⟩, ⟨some 55, some (53, false), .ld false 1 (.t 54)⟩, ⟨some 56, some (53, false), .lenl (.t 55)⟩, ⟨some 57, some (53, false), .fa 1 1 (.t 7)⟩, ⟨some 58, some (53, false), .ld false 1 (.t 57)⟩, ⟨some 59, some (53, false), .lenl (.t 58)⟩, ⟨some 60, some (53, false), .bin (.neq) (.t 56) (.t 59)⟩, ⟨some 61, none, .pick (.t 53) (.c (.bool true)) (.t 60)⟩] [48, 49, 50, 51, 52, 53, 54, 55, 56, 57, 58, 59, 60]
@[simp] theorem ref16_Equal_c11_eq {K : AK} {env : Env} {H : AHeap} : aw PP ref16_Equal_c11 K env H = awOps PP [⟨some 48, none, .fa 0 0 (.t 6)⟩, ⟨some 49, none, .ld false 1 (.t 48)⟩, ⟨some 50, none, .fa 0 0 (.t 7)⟩, ⟨some 51, none, .ld false 1 (.t 50)⟩, ⟨some 52, none, .bin (.neq) (.t 49) (.t 51)⟩, ⟨some 53, none, .mov (.t 52)⟩, ⟨some 54, some (53, false), .fa 1 1 (.t 6)⟩, ⟨some 55, some (53, false), .ld false 1 (.t 54)⟩, ⟨some 56, some (53, false), .lenl (.t 55)⟩, ⟨some 57, some (53, false), .fa 1 1 (.t 7)⟩, ⟨some 58, some (53, false), .ld false 1 (.t 57)⟩, ⟨some 59, some (53, false), .lenl (.t 58)⟩, ⟨some 60, some (53, false), .bin (.neq) (.t 56) (.t 59)⟩, ⟨some 61, none, .pick (.t 53) (.c (.bool true)) (.t 60)⟩] (regK K [48, 49, 50, 51, 52, 53, 54, 55, 56, 57, 58, 59, 60]) (panK K) env H := aw_reg _ _
def ref16_Equal_c12 : AC := .reg [⟨some 4, none, .mov (.c (.bool false))⟩] [2, 3, 5, 6, 7, 61]
@[simp] theorem ref16_Equal_c12_eq {K : AK} {env : Env} {H : AHeap} : aw PP ref16_Equal_c12 K env H = awOps PP [⟨some 4, none, .mov (.c (.bool false))⟩] (regK K [2, 3, 5, 6, 7, 61]) (panK K) env H := aw_reg _ _
def ref16_Equal_c13 : AC := .seq ref16_Equal_c12 .ret
@[simp] theorem ref16_Equal_c13_eq {K : AK} {env : Env} {H : AHeap} : aw PP ref16_Equal_c13 K env H = aw PP ref16_Equal_c12 (seqK PP .ret K) env H := aw_seq ref16_Equal_c12 .ret
def ref16_Equal_c14 : AC := .cond (.t 61) ref16_Equal_c13 .skip
@[simp] theorem ref16_Equal_c14_eq {K : AK} {env : Env} {H : AHeap} : aw PP ref16_Equal_c14 K env H = condQ PP (Opd.ev env (.t 61)) ref16_Equal_c13 .skip K env H := aw_cond _ ref16_Equal_c13 .skip
def ref16_Equal_c15 : AC := .seq ref16_Equal_c11 ref16_Equal_c14
@[simp] theorem ref16_Equal_c15_eq {K : AK} {env : Env} {H : AHeap} : aw PP ref16_Equal_c15 K env H = aw PP ref16_Equal_c11 (seqK PP ref16_Equal_c14 K) env H := aw_seq ref16_Equal_c11 ref16_Equal_c14
def ref16_Equal_c16 : AC := .reg [⟨some 8, none, .mov (.c (.int (.i64) 0))⟩] [61]
@[simp] theorem ref16_Equal_c16_eq {K : AK} {env : Env} {H : AHeap} : aw PP ref16_Equal_c16 K env H = awOps PP [⟨some 8, none, .mov (.c (.int (.i64) 0))⟩] (regK K [61]) (panK K) env H := aw_reg _ _
def ref16_Equal_c17 : AC := .reg [⟨some 62, none, .mov (.t 8)⟩, ⟨some 63, none, .fa 1 1 (.t 6)⟩, ⟨some 64, none, .ld false 1 (.t 63)⟩, ⟨some 65, none, .lenl (.t 64)⟩, ⟨some 66, none, .bin (.lss) (.t 62) (.t 65)⟩] [62, 63, 64, 65]
@[simp] theorem ref16_Equal_c17_eq {K : AK} {env : Env} {H : AHeap} : aw PP ref16_Equal_c17 K env H = awOps PP [⟨some 62, none, .mov (.t 8)⟩, ⟨some 63, none, .fa 1 1 (.t 6)⟩, ⟨some 64, none, .ld false 1 (.t 63)⟩, ⟨some 65, none, .lenl (.t 64)⟩, ⟨some 66, none, .bin (.lss) (.t 62) (.t 65)⟩] (regK K [62, 63, 64, 65]) (panK K) env H := aw_reg _ _
def ref16_Equal_c18 : AC := .cond (.t 66) .skip (.exit 2)
@[simp] theorem ref16_Equal_c18_eq {K : AK} {env : Env} {H : AHeap} : aw PP ref16_Equal_c18 K env H = condQ PP (Opd.ev env (.t 66)) .skip (.exit 2) K env H := aw_cond _ .skip (.exit 2)
def ref16_Equal_c19 : AC := .seq ref16_Equal_c17 ref16_Equal_c18
@[simp] theorem ref16_Equal_c19_eq {K : AK} {env : Env} {H : AHeap} : aw PP ref16_Equal_c19 K env H = aw PP ref16_Equal_c17 (seqK PP ref16_Equal_c18 K) env H := aw_seq ref16_Equal_c17 ref16_Equal_c18
def ref16_Equal_c20_ops : List (AI × List Nat) := [(⟨some 69, none, .fa 1 1 (.t 6)⟩, []), (⟨some 70, none, .ld false 1 (.t 69)⟩, [0]), (⟨some 71, none, .mov (.t 8)⟩, []), (⟨some 72, none, .ixa 4 (.t 70) (.t 71)⟩, [1, 2]), (⟨some 73, none, .fa 1 3 (.t 72)⟩, [3]), (⟨some 74, none, .ld false 1 (.t 73)⟩, [4]), (⟨some 75, none, .fa 1 1 (.t 7)⟩, []), (⟨some 76, none, .ld false 1 (.t 75)⟩, [6]), (⟨some 77, none, .mov (.t 8)⟩, []), (⟨some 78, none, .ixa 4 (.t 76) (.t 77)⟩, [7, 8]), (⟨some 79, none, .fa 1 3 (.t 78)⟩, [9]), (⟨some 80, none, .ld false 1 (.t 79)⟩, [10]), (⟨some 81, none, .bin (.neq) (.t 74) (.t 80)⟩, [5, 11]), (⟨some 82, none, .mov (.t 81)⟩, [12]), (⟨some 83, some (82, false), .fa 1 1 (.t 6)⟩, [13]), (⟨some 84, some (82, false), .ld false 1 (.t 83)⟩, [14, 13]), (⟨some 85, some (82, false), .mov (.t 8)⟩, [13]), (⟨some 86, some (82, false), .ixa 4 (.t 84) (.t 85)⟩, [15, 16, 13]), (⟨some 87, some (82, false), .fa 0 0 (.t 86)⟩, [17, 13]), (⟨some 88, some (82, false), .ld true 3 (.t 87)⟩, [18, 13]), (⟨some 89, some (82, false), .fa 1 1 (.t 7)⟩, [13]), (⟨some 90, some (82, false), .ld false 1 (.t 89)⟩, [20, 13]), (⟨some 91, some (82, false), .mov (.t 8)⟩, [13]), (⟨some 92, some (82, false), .ixa 4 (.t 90) (.t 91)⟩, [21, 22, 13]), (⟨some 93, some (82, false), .fa 0 0 (.t 92)⟩, [23, 13]), (⟨some 94, some (82, false), .ld true 3 (.t 93)⟩, [24, 13]), (⟨some 95, some (82, false), .call (.c (.fn (.func 33) [] [])) [.t 88, .t 94]⟩, [19, 25, 13, 13]), (⟨some 96, some (82, false), .not (.t 95)⟩, [26, 13]), (⟨some 97, none, .pick (.t 82) (.c (.bool true)) (.t 96)⟩, [13, 27])]
def ref16_Equal_c20 : AC := .dreg ref16_Equal_c20_ops [66, 69, 70, 71, 72, 73, 74, 75, 76, 77, 78, 79, 80, 81, 82, 83, 84, 85, 86, 87, 88, 89, 90, 91, 92, 93, 94, 95, 96]
theorem ref16_Equal_c20_ok : lexOK ref16_Equal_c20_ops (fun i => [].contains i) = true := by kernel_rfl
theorem ref16_Equal_c20_lex {K : AK} {env : Env} {H : AHeap} (h : awLex PP (fun i => [].contains i) (regK K [66, 69, 70, 71, 72, 73, 74, 75, 76, 77, 78, 79, 80, 81, 82, 83, 84, 85, 86, 87, 88, 89, 90, 91, 92, 93, 94, 95, 96]) (panK K) [(0, ⟨some 69, none, .fa 1 1 (.t 6)⟩), (1, ⟨some 70, none, .ld false 1 (.t 69)⟩), (2, ⟨some 71, none, .mov (.t 8)⟩), (3, ⟨some 72, none, .ixa 4 (.t 70) (.t 71)⟩), (4, ⟨some 73, none, .fa 1 3 (.t 72)⟩), (5, ⟨some 74, none, .ld false 1 (.t 73)⟩), (6, ⟨some 75, none, .fa 1 1 (.t 7)⟩), (7, ⟨some 76, none, .ld false 1 (.t 75)⟩), (8, ⟨some 77, none, .mov (.t 8)⟩), (9, ⟨some 78, none, .ixa 4 (.t 76) (.t 77)⟩), (10, ⟨some 79, none, .fa 1 3 (.t 78)⟩), (11, ⟨some 80, none, .ld false 1 (.t 79)⟩), (12, ⟨some 81, none, .bin (.neq) (.t 74) (.t 80)⟩), (13, ⟨some 82, none, .mov (.t 81)⟩), (14, ⟨some 83, some (82, false), .fa 1 1 (.t 6)⟩), (15, ⟨some 84, some (82, false), .ld false 1 (.t 83)⟩), (16, ⟨some 85, some (82, false), .mov (.t 8)⟩), (17, ⟨some 86, some (82, false), .ixa 4 (.t 84) (.t 85)⟩), (18, ⟨some 87, some (82, false), .fa 0 0 (.t 86)⟩), (19, ⟨some 88, some (82, false), .ld true 3 (.t 87)⟩), (20, ⟨some 89, some (82, false), .fa 1 1 (.t 7)⟩), (21, ⟨some 90, some (82, false), .ld false 1 (.t 89)⟩), (22, ⟨some 91, some (82, false), .mov (.t 8)⟩), (23, ⟨some 92, some (82, false), .ixa 4 (.t 90) (.t 91)⟩), (24, ⟨some 93, some (82, false), .fa 0 0 (.t 92)⟩), (25, ⟨some 94, some (82, false), .ld true 3 (.t 93)⟩), (26, ⟨some 95, some (82, false), .call (.c (.fn (.func 33) [] [])) [.t 88, .t 94]⟩), (27, ⟨some 96, some (82, false), .not (.t 95)⟩), (28, ⟨some 97, none, .pick (.t 82) (.c (.bool true)) (.t 96)⟩)] env H) : aw PP ref16_Equal_c20 K env H := aw_dreg_lex _ ref16_Equal_c20_ok h
theorem ref16_Equal_c20_okF : lexOKF ref16_Equal_c20_ops 26 (fun i => [26].contains i) = true := by kernel_rfl
theorem ref16_Equal_c20_lexF {K : AK} {env : Env} {H : AHeap} (B : List Nat) (h : awLexF PP 26 (fun i => [26].contains i) B H (regK K [66, 69, 70, 71, 72, 73, 74, 75, 76, 77, 78, 79, 80, 81, 82, 83, 84, 85, 86, 87, 88, 89, 90, 91, 92, 93, 94, 95, 96]) (panK K) [(0, ⟨some 69, none, .fa 1 1 (.t 6)⟩), (1, ⟨some 70, none, .ld false 1 (.t 69)⟩), (2, ⟨some 71, none, .mov (.t 8)⟩), (3, ⟨some 72, none, .ixa 4 (.t 70) (.t 71)⟩), (4, ⟨some 73, none, .fa 1 3 (.t 72)⟩), (5, ⟨some 74, none, .ld false 1 (.t 73)⟩), (6, ⟨some 75, none, .fa 1 1 (.t 7)⟩), (7, ⟨some 76, none, .ld false 1 (.t 75)⟩), (8, ⟨some 77, none, .mov (.t 8)⟩), (9, ⟨some 78, none, .ixa 4 (.t 76) (.t 77)⟩), (10, ⟨some 79, none, .fa 1 3 (.t 78)⟩), (11, ⟨some 80, none, .ld false 1 (.t 79)⟩), (12, ⟨some 81, none, .bin (.neq) (.t 74) (.t 80)⟩), (13, ⟨some 82, none, .mov (.t 81)⟩), (14, ⟨some 83, some (82, false), .fa 1 1 (.t 6)⟩), (15, ⟨some 84, some (82, false), .ld false 1 (.t 83)⟩), (16, ⟨some 85, some (82, false), .mov (.t 8)⟩), (17, ⟨some 86, some (82, false), .ixa 4 (.t 84) (.t 85)⟩), (18, ⟨some 87, some (82, false), .fa 0 0 (.t 86)⟩), (19, ⟨some 88, some (82, false), .ld true 3 (.t 87)⟩), (20, ⟨some 89, some (82, false), .fa 1 1 (.t 7)⟩), (21, ⟨some 90, some (82, false), .ld false 1 (.t 89)⟩), (22, ⟨some 91, some (82, false), .mov (.t 8)⟩), (23, ⟨some 92, some (82, false), .ixa 4 (.t 90) (.t 91)⟩), (24, ⟨some 93, some (82, false), .fa 0 0 (.t 92)⟩), (25, ⟨some 94, some (82, false), .ld true 3 (.t 93)⟩), (26, ⟨some 95, some (82, false), .call (.c (.fn (.func 33) [] [])) [.t 88, .t 94]⟩), (27, ⟨some 96, some (82, false), .not (.t 95)⟩), (28, ⟨some 97, none, .pick (.t 82) (.c (.bool true)) (.t 96)⟩)] env H) : aw PP ref16_Equal_c20 K env H := aw_dreg_lexF _ _ B ref16_Equal_c20_okF h
def ref16_Equal_c21 : AC := .reg [⟨some 4, none, .mov (.c (.bool false))⟩] [2, 3, 5, 6, 7, 8, 97]
@[simp] theorem ref16_Equal_c21_eq {K : AK} {env : Env} {H : AHeap} : aw PP ref16_Equal_c21 K env H = awOps PP [⟨some 4, none, .mov (.c (.bool false))⟩] (regK K [2, 3, 5, 6, 7, 8, 97]) (panK K) env H := aw_reg _ _
def ref16_Equal_c22 : AC := .seq ref16_Equal_c21 .ret
@[simp] theorem ref16_Equal_c22_eq {K : AK} {env : Env} {H : AHeap} : aw PP ref16_Equal_c22 K env H = aw PP ref16_Equal_c21 (seqK PP .ret K) env H := aw_seq ref16_Equal_c21 .ret
def ref16_Equal_c23 : AC := .cond (.t 97) ref16_Equal_c22 .skip
@[simp] theorem ref16_Equal_c23_eq {K : AK} {env : Env} {H : AHeap} : aw PP ref16_Equal_c23 K env H = condQ PP (Opd.ev env (.t 97)) ref16_Equal_c22 .skip K env H := aw_cond _ ref16_Equal_c22 .skip
def ref16_Equal_c24 : AC := .seq ref16_Equal_c20 ref16_Equal_c23
@[simp] theorem ref16_Equal_c24_eq {K : AK} {env : Env} {H : AHeap} : aw PP ref16_Equal_c24 K env H = aw PP ref16_Equal_c20 (seqK PP ref16_Equal_c23 K) env H := aw_seq ref16_Equal_c20 ref16_Equal_c23
def ref16_Equal_c25 : AC := .block 3 ref16_Equal_c24
@[simp] theorem ref16_Equal_c25_eq {K : AK} {env : Env} {H : AHeap} : aw PP ref16_Equal_c25 K env H = aw PP ref16_Equal_c24 (blockK 3 K) env H := aw_block _ ref16_Equal_c24
def ref16_Equal_c26 : AC := .reg [⟨some 67, none, .mov (.t 8)⟩, ⟨some 68, none, .bin (.add) (.t 67) (.c (.int (.i64) 1))⟩, ⟨some 8, none, .mov (.t 68)⟩] [67, 68, 97]
@[simp] theorem ref16_Equal_c26_eq {K : AK} {env : Env} {H : AHeap} : aw PP ref16_Equal_c26 K env H = awOps PP [⟨some 67, none, .mov (.t 8)⟩, ⟨some 68, none, .bin (.add) (.t 67) (.c (.int (.i64) 1))⟩, ⟨some 8, none, .mov (.t 68)⟩] (regK K [67, 68, 97]) (panK K) env H := aw_reg _ _
def ref16_Equal_c27 : AC := .seq ref16_Equal_c25 ref16_Equal_c26
@[simp] theorem ref16_Equal_c27_eq {K : AK} {env : Env} {H : AHeap} : aw PP ref16_Equal_c27 K env H = aw PP ref16_Equal_c25 (seqK PP ref16_Equal_c26 K) env H := aw_seq ref16_Equal_c25 ref16_Equal_c26
def ref16_Equal_c28 : AC := .seq ref16_Equal_c19 ref16_Equal_c27
@[simp] theorem ref16_Equal_c28_eq {K : AK} {env : Env} {H : AHeap} : aw PP ref16_Equal_c28 K env H = aw PP ref16_Equal_c19 (seqK PP ref16_Equal_c27 K) env H := aw_seq ref16_Equal_c19 ref16_Equal_c27
def ref16_Equal_c29 : AC := .loop ref16_Equal_c28
def ref16_Equal_c30 : AC := .block 2 ref16_Equal_c29
@[simp] theorem ref16_Equal_c30_eq {K : AK} {env : Env} {H : AHeap} : aw PP ref16_Equal_c30 K env H = aw PP ref16_Equal_c29 (blockK 2 K) env H := aw_block _ ref16_Equal_c29
def ref16_Equal_c31 : AC := .seq ref16_Equal_c16 ref16_Equal_c30
@[simp] theorem ref16_Equal_c31_eq {K : AK} {env : Env} {H : AHeap} : aw PP ref16_Equal_c31 K env H = aw PP ref16_Equal_c16 (seqK PP ref16_Equal_c30 K) env H := aw_seq ref16_Equal_c16 ref16_Equal_c30
def ref16_Equal_c32 : AC := .seq ref16_Equal_c15 ref16_Equal_c31
@[simp] theorem ref16_Equal_c32_eq {K : AK} {env : Env} {H : AHeap} : aw PP ref16_Equal_c32 K env H = aw PP ref16_Equal_c15 (seqK PP ref16_Equal_c31 K) env H := aw_seq ref16_Equal_c15 ref16_Equal_c31
def ref16_Equal_c33 : AC := .seq ref16_Equal_c10 ref16_Equal_c32
@[simp] theorem ref16_Equal_c33_eq {K : AK} {env : Env} {H : AHeap} : aw PP ref16_Equal_c33 K env H = aw PP ref16_Equal_c10 (seqK PP ref16_Equal_c32 K) env H := aw_seq ref16_Equal_c10 ref16_Equal_c32
def ref16_Equal_c34 : AC := .block 1 ref16_Equal_c33
@[simp] theorem ref16_Equal_c34_eq {K : AK} {env : Env} {H : AHeap} : aw PP ref16_Equal_c34 K env H = aw PP ref16_Equal_c33 (blockK 1 K) env H := aw_block _ ref16_Equal_c33
def ref16_Equal_c35 : AC := .reg [⟨some 36, none, .mov (.t 5)⟩, ⟨some 37, none, .bin (.add) (.t 36) (.c (.int (.i64) 1))⟩, ⟨some 5, none, .mov (.t 37)⟩] [6, 7, 8, 36, 37, 66]
@[simp] theorem ref16_Equal_c35_eq {K : AK} {env : Env} {H : AHeap} : aw PP ref16_Equal_c35 K env H = awOps PP [⟨some 36, none, .mov (.t 5)⟩, ⟨some 37, none, .bin (.add) (.t 36) (.c (.int (.i64) 1))⟩, ⟨some 5, none, .mov (.t 37)⟩] (regK K [6, 7, 8, 36, 37, 66]) (panK K) env H := aw_reg _ _
def ref16_Equal_c36 : AC := .seq ref16_Equal_c34 ref16_Equal_c35
@[simp] theorem ref16_Equal_c36_eq {K : AK} {env : Env} {H : AHeap} : aw PP ref16_Equal_c36 K env H = aw PP ref16_Equal_c34 (seqK PP ref16_Equal_c35 K) env H := aw_seq ref16_Equal_c34 ref16_Equal_c35
def ref16_Equal_c37 : AC := .seq ref16_Equal_c9 ref16_Equal_c36
@[simp] theorem ref16_Equal_c37_eq {K : AK} {env : Env} {H : AHeap} : aw PP ref16_Equal_c37 K env H = aw PP ref16_Equal_c9 (seqK PP ref16_Equal_c36 K) env H := aw_seq ref16_Equal_c9 ref16_Equal_c36
def ref16_Equal_c38 : AC := .loop ref16_Equal_c37
def ref16_Equal_c39 : AC := .block 0 ref16_Equal_c38
@[simp] theorem ref16_Equal_c39_eq {K : AK} {env : Env} {H : AHeap} : aw PP ref16_Equal_c39 K env H = aw PP ref16_Equal_c38 (blockK 0 K) env H := aw_block _ ref16_Equal_c38
def ref16_Equal_c40 : AC := .seq ref16_Equal_c6 ref16_Equal_c39
@[simp] theorem ref16_Equal_c40_eq {K : AK} {env : Env} {H : AHeap} : aw PP ref16_Equal_c40 K env H = aw PP ref16_Equal_c6 (seqK PP ref16_Equal_c39 K) env H := aw_seq ref16_Equal_c6 ref16_Equal_c39
def ref16_Equal_c41 : AC := .reg [⟨some 4, none, .mov (.c (.bool true))⟩] [2, 3, 5, 35]
@[simp] theorem ref16_Equal_c41_eq {K : AK} {env : Env} {H : AHeap} : aw PP ref16_Equal_c41 K env H = awOps PP [⟨some 4, none, .mov (.c (.bool true))⟩] (regK K [2, 3, 5, 35]) (panK K) env H := aw_reg _ _
def ref16_Equal_c42 : AC := .seq ref16_Equal_c41 .ret
@[simp] theorem ref16_Equal_c42_eq {K : AK} {env : Env} {H : AHeap} : aw PP ref16_Equal_c42 K env H = aw PP ref16_Equal_c41 (seqK PP .ret K) env H := aw_seq ref16_Equal_c41 .ret
def ref16_Equal_c43 : AC := .seq ref16_Equal_c40 ref16_Equal_c42
@[simp] theorem ref16_Equal_c43_eq {K : AK} {env : Env} {H : AHeap} : aw PP ref16_Equal_c43 K env H = aw PP ref16_Equal_c40 (seqK PP ref16_Equal_c42 K) env H := aw_seq ref16_Equal_c40 ref16_Equal_c42
def ref16_Equal_c44 : AC := .seq ref16_Equal_c5 ref16_Equal_c43
@[simp] theorem ref16_Equal_c44_eq {K : AK} {env : Env} {H : AHeap} : aw PP ref16_Equal_c44 K env H = aw PP ref16_Equal_c5 (seqK PP ref16_Equal_c43 K) env H := aw_seq ref16_Equal_c5 ref16_Equal_c43
def ref16_Equal_c45 : AC := .seq ref16_Equal_c0 ref16_Equal_c44
@[simp] theorem ref16_Equal_c45_eq {K : AK} {env : Env} {H : AHeap} : aw PP ref16_Equal_c45 K env H = aw PP ref16_Equal_c0 (seqK PP ref16_Equal_c44 K) env H := aw_seq ref16_Equal_c0 ref16_Equal_c44
def ref16_Equal_ac : AC := ref16_Equal_c45
@[simp] theorem ref16_Equal_ac_eq {K : AK} {env : Env} {H : AHeap} : aw PP ref16_Equal_ac K env H = aw PP ref16_Equal_c45 K env H := Eq.trans rfl rfl
def ref16_Equal_rs : List ARV := [.tmp 4]
abbrev ref16_Equal_id : Nat := 11
theorem ref16_Equal_comp : compF PP ref16_Equal_kl ref16_Equal_ow 2 Try.f11 = some (ref16_Equal_ac, ref16_Equal_rs) := by kernel_rfl
theorem ref16_Equal_enter {args : List AV} {H : AHeap} {post : ARes → AHeap → Prop} (ha : args.length = 2) (h : aw PP ref16_Equal_ac (retK ref16_Equal_rs post) (argEnv 0 args) H) : ACalls PP ref16_Equal_id args H post := .enterF Try.func11 PP_mix ref16_Equal_comp ha h

/-! emendate.emendateref17.Tokens -/
def ref17_Tokens_kl : Nat → List Nat
  | 0 => [2]
  | 1 => [5, 6, 7]
  | 2 => [8, 9]
  | 4 => [10, 11, 12, 13, 14, 15]
  | 5 => [16, 17, 18, 19, 20, 21]
  | 6 => [22, 23]
  | 7 => [0, 3, 4, 16, 24]
  | _ => []
def ref17_Tokens_ow : Nat → Nat → Bool := fun _ _ => false
def ref17_Tokens_c0 : AC := .reg [⟨some 2, none, .mov (.c (.nils))⟩] [2]
@[simp] theorem ref17_Tokens_c0_eq {K : AK} {env : Env} {H : AHeap} : aw PP ref17_Tokens_c0 K env H = awOps PP [⟨some 2, none, .mov (.c (.nils))⟩] (regK K [2]) (panK K) env H := aw_reg _ _
def ref17_Tokens_c1 : AC := .reg [⟨some 5, none, .mov (.t 0)⟩, ⟨some 6, none, .build [.str [], .int (.i64) 0, .int (.i64) 0, .bool false] [(0, .t 5)]⟩, ⟨some 7, none, .box (.t 6) 4 62⟩, ⟨some 3, none, .mov (.t 7)⟩] [5, 6, 7]
@[simp] theorem ref17_Tokens_c1_eq {K : AK} {env : Env} {H : AHeap} : aw PP ref17_Tokens_c1 K env H = awOps PP [⟨some 5, none, .mov (.t 0)⟩, ⟨some 6, none, .build [.str [], .int (.i64) 0, .int (.i64) 0, .bool false] [(0, .t 5)]⟩, ⟨some 7, none, .box (.t 6) 4 62⟩, ⟨some 3, none, .mov (.t 7)⟩] (regK K [5, 6, 7]) (panK K) env H := aw_reg _ _
def ref17_Tokens_c2 : AC := .reg [⟨some 8, none, .mov (.t 3)⟩, ⟨some 9, none, .call (.c (.fn (.func 25) [] [])) [.t 8]⟩] [8, 9]
@[simp] theorem ref17_Tokens_c2_eq {K : AK} {env : Env} {H : AHeap} : aw PP ref17_Tokens_c2 K env H = awOps PP [⟨some 8, none, .mov (.t 3)⟩, ⟨some 9, none, .call (.c (.fn (.func 25) [] [])) [.t 8]⟩] (regK K [8, 9]) (panK K) env H := aw_reg _ _
def ref17_Tokens_c3 : AC := .reg [⟨some 4, none, .mov (.c (.nils))⟩] []
@[simp] theorem ref17_Tokens_c3_eq {K : AK} {env : Env} {H : AHeap} : aw PP ref17_Tokens_c3 K env H = awOps PP [⟨some 4, none, .mov (.c (.nils))⟩] (regK K []) (panK K) env H := aw_reg _ _
def ref17_Tokens_c4 : AC := .reg [⟨some 10, none, .mov (.t 3)⟩, ⟨some 11, none, .nilc (.t 10)⟩, ⟨some 12, none, .fa 1 1 (.t 11)⟩, ⟨some 13, none, .ld false 1 (.t 12)⟩, ⟨some 14, none, .mov (.t 0)⟩, ⟨some 15, none, .lens (.t 14)⟩, ⟨some 16, none, .bin (.lss) (.t 13) (.t 15)⟩] [10, 11, 12, 13, 14, 15]
@[simp] theorem ref17_Tokens_c4_eq {K : AK} {env : Env} {H : AHeap} : aw PP ref17_Tokens_c4 K env H = awOps PP [⟨some 10, none, .mov (.t 3)⟩, ⟨some 11, none, .nilc (.t 10)⟩, ⟨some 12, none, .fa 1 1 (.t 11)⟩, ⟨some 13, none, .ld false 1 (.t 12)⟩, ⟨some 14, none, .mov (.t 0)⟩, ⟨some 15, none, .lens (.t 14)⟩, ⟨some 16, none, .bin (.lss) (.t 13) (.t 15)⟩] (regK K [10, 11, 12, 13, 14, 15]) (panK K) env H := aw_reg _ _
def ref17_Tokens_c5 : AC := .cond (.t 16) .skip (.exit 0)
@[simp] theorem ref17_Tokens_c5_eq {K : AK} {env : Env} {H : AHeap} : aw PP ref17_Tokens_c5 K env H = condQ PP (Opd.ev env (.t 16)) .skip (.exit 0) K env H := aw_cond _ .skip (.exit 0)
def ref17_Tokens_c6 : AC := .seq ref17_Tokens_c4 ref17_Tokens_c5
@[simp] theorem ref17_Tokens_c6_eq {K : AK} {env : Env} {H : AHeap} : aw PP ref17_Tokens_c6 K env H = aw PP ref17_Tokens_c4 (seqK PP ref17_Tokens_c5 K) env H := aw_seq ref17_Tokens_c4 ref17_Tokens_c5
def ref17_Tokens_c7 : AC := .reg [⟨some 17, none, .mov (.t 4)⟩, ⟨some 18, none, .mov (.t 3)⟩, ⟨some 19, none, .call (.c (.fn (.func 34) [] [])) [.t 18]⟩, ⟨some 20, none, .bsl false 9 1 1 (.str []) [(0, .t 19)]⟩, ⟨some 21, none, .app 9 1 16 (.t 17) (.t 20)⟩, ⟨some 4, none, .mov (.t 21)⟩] [16, 17, 18, 19, 20, 21]
@[simp] theorem ref17_Tokens_c7_eq {K : AK} {env : Env} {H : AHeap} : aw PP ref17_Tokens_c7 K env H = awOps PP [⟨some 17, none, .mov (.t 4)⟩, ⟨some 18, none, .mov (.t 3)⟩, ⟨some 19, none, .call (.c (.fn (.func 34) [] [])) [.t 18]⟩, ⟨some 20, none, .bsl false 9 1 1 (.str []) [(0, .t 19)]⟩, ⟨some 21, none, .app 9 1 16 (.t 17) (.t 20)⟩, ⟨some 4, none, .mov (.t 21)⟩] (regK K [16, 17, 18, 19, 20, 21]) (panK K) env H := aw_reg _ _
def ref17_Tokens_c8 : AC := .reg [⟨some 22, none, .mov (.t 3)⟩, ⟨some 23, none, .call (.c (.fn (.func 25) [] [])) [.t 22]⟩] [22, 23]
@[simp] theorem ref17_Tokens_c8_eq {K : AK} {env : Env} {H : AHeap} : aw PP ref17_Tokens_c8 K env H = awOps PP [⟨some 22, none, .mov (.t 3)⟩, ⟨some 23, none, .call (.c (.fn (.func 25) [] [])) [.t 22]⟩] (regK K [22, 23]) (panK K) env H := aw_reg _ _
def ref17_Tokens_c9 : AC := .seq ref17_Tokens_c7 ref17_Tokens_c8
@[simp] theorem ref17_Tokens_c9_eq {K : AK} {env : Env} {H : AHeap} : aw PP ref17_Tokens_c9 K env H = aw PP ref17_Tokens_c7 (seqK PP ref17_Tokens_c8 K) env H := aw_seq ref17_Tokens_c7 ref17_Tokens_c8
def ref17_Tokens_c10 : AC := .block 1 ref17_Tokens_c9
@[simp] theorem ref17_Tokens_c10_eq {K : AK} {env : Env} {H : AHeap} : aw PP ref17_Tokens_c10 K env H = aw PP ref17_Tokens_c9 (blockK 1 K) env H := aw_block _ ref17_Tokens_c9
def ref17_Tokens_c11 : AC := .seq ref17_Tokens_c6 ref17_Tokens_c10
@[simp] theorem ref17_Tokens_c11_eq {K : AK} {env : Env} {H : AHeap} : aw PP ref17_Tokens_c11 K env H = aw PP ref17_Tokens_c6 (seqK PP ref17_Tokens_c10 K) env H := aw_seq ref17_Tokens_c6 ref17_Tokens_c10
def ref17_Tokens_c12 : AC := .loop ref17_Tokens_c11
def ref17_Tokens_c13 : AC := .block 0 ref17_Tokens_c12
@[simp] theorem ref17_Tokens_c13_eq {K : AK} {env : Env} {H : AHeap} : aw PP ref17_Tokens_c13 K env H = aw PP ref17_Tokens_c12 (blockK 0 K) env H := aw_block _ ref17_Tokens_c12
def ref17_Tokens_c14 : AC := .reg [⟨some 24, none, .mov (.t 4)⟩, ⟨some 2, none, .mov (.t 24)⟩] [0, 3, 4, 16, 24]
@[simp] theorem ref17_Tokens_c14_eq {K : AK} {env : Env} {H : AHeap} : aw PP ref17_Tokens_c14 K env H = awOps PP [⟨some 24, none, .mov (.t 4)⟩, ⟨some 2, none, .mov (.t 24)⟩] (regK K [0, 3, 4, 16, 24]) (panK K) env H := aw_reg _ _
def ref17_Tokens_c15 : AC := .seq ref17_Tokens_c14 .ret
@[simp] theorem ref17_Tokens_c15_eq {K : AK} {env : Env} {H : AHeap} : aw PP ref17_Tokens_c15 K env H = aw PP ref17_Tokens_c14 (seqK PP .ret K) env H := aw_seq ref17_Tokens_c14 .ret
def ref17_Tokens_c16 : AC := .seq ref17_Tokens_c13 ref17_Tokens_c15
@[simp] theorem ref17_Tokens_c16_eq {K : AK} {env : Env} {H : AHeap} : aw PP ref17_Tokens_c16 K env H = aw PP ref17_Tokens_c13 (seqK PP ref17_Tokens_c15 K) env H := aw_seq ref17_Tokens_c13 ref17_Tokens_c15
def ref17_Tokens_c17 : AC := .seq ref17_Tokens_c3 ref17_Tokens_c16
@[simp] theorem ref17_Tokens_c17_eq {K : AK} {env : Env} {H : AHeap} : aw PP ref17_Tokens_c17 K env H = aw PP ref17_Tokens_c3 (seqK PP ref17_Tokens_c16 K) env H := aw_seq ref17_Tokens_c3 ref17_Tokens_c16
def ref17_Tokens_c18 : AC := .seq ref17_Tokens_c2 ref17_Tokens_c17
@[simp] theorem ref17_Tokens_c18_eq {K : AK} {env : Env} {H : AHeap} : aw PP ref17_Tokens_c18 K env H = aw PP ref17_Tokens_c2 (seqK PP ref17_Tokens_c17 K) env H := aw_seq ref17_Tokens_c2 ref17_Tokens_c17
def ref17_Tokens_c19 : AC := .seq ref17_Tokens_c1 ref17_Tokens_c18
@[simp] theorem ref17_Tokens_c19_eq {K : AK} {env : Env} {H : AHeap} : aw PP ref17_Tokens_c19 K env H = aw PP ref17_Tokens_c1 (seqK PP ref17_Tokens_c18 K) env H := aw_seq ref17_Tokens_c1 ref17_Tokens_c18
def ref17_Tokens_c20 : AC := .seq ref17_Tokens_c0 ref17_Tokens_c19
@[simp] theorem ref17_Tokens_c20_eq {K : AK} {env : Env} {H : AHeap} : aw PP ref17_Tokens_c20 K env H = aw PP ref17_Tokens_c0 (seqK PP ref17_Tokens_c19 K) env H := aw_seq ref17_Tokens_c0 ref17_Tokens_c19
def ref17_Tokens_ac : AC := ref17_Tokens_c20
@[simp] theorem ref17_Tokens_ac_eq {K : AK} {env : Env} {H : AHeap} : aw PP ref17_Tokens_ac K env H = aw PP ref17_Tokens_c20 K env H := Eq.trans rfl rfl
def ref17_Tokens_rs : List ARV := [.tmp 2]
abbrev ref17_Tokens_id : Nat := 13
theorem ref17_Tokens_comp : compF PP ref17_Tokens_kl ref17_Tokens_ow 1 Try.f13 = some (ref17_Tokens_ac, ref17_Tokens_rs) := by kernel_rfl
theorem ref17_Tokens_enter {args : List AV} {H : AHeap} {post : ARes → AHeap → Prop} (ha : args.length = 1) (h : aw PP ref17_Tokens_ac (retK ref17_Tokens_rs post) (argEnv 0 args) H) : ACalls PP ref17_Tokens_id args H post := .enterF Try.func13 PP_mix ref17_Tokens_comp ha h

end Go.Av
