/- Functions of the given program, compiled to the own form by program. -/
import Derived.Test.YtondhmpdmbjmdaaDoorProg
import Derived.KernelRfl
import Derived.Test.YtondhmpdmbjmdaaDoorAvF
import Derived.Test.YtondhmpdmbjmdaaDoorFnsA
set_option linter.unusedVariables false
set_option linter.unusedSimpArgs false
namespace Go.Av
open Go Go.Proofs
variable {K : AK} {env : Env} {H : AHeap}
/-! emendate.emendatelaw16.small -/
def lS_small_kl : Nat → List Nat
  | 0 => [0, 4]
  | 1 => [1, 2, 5, 6, 7, 8, 9]
  | _ => []
def lS_small_ow : Nat → Nat → Bool := fun _ _ => false
def lS_small_c0 : AC := .reg [⟨some 2, none, .box (.t 0) 3 25⟩, ⟨some 4, none, .mov (.c (.bool false))⟩] [0, 4]
@[simp] theorem lS_small_c0_eq : aw PP lS_small_c0 K env H = awOps PP [⟨some 2, none, .box (.t 0) 3 25⟩, ⟨some 4, none, .mov (.c (.bool false))⟩] (regK K [0, 4]) (panK K) env H := aw_reg _ _
def lS_small_c1 : AC := .reg [⟨some 5, none, .ld true 3 (.t 2)⟩, ⟨some 6, none, .mov (.t 1)⟩, ⟨some 7, none, .call (.c (.fn (.func 22) [] [])) [.t 5, .t 6]⟩, ⟨some 8, none, .mov (.t 1)⟩, ⟨some 9, none, .bin (.leq) (.t 7) (.t 8)⟩, ⟨some 4, none, .mov (.t 9)⟩] [1, 2, 5, 6, 7, 8, 9]
@[simp] theorem lS_small_c1_eq : aw PP lS_small_c1 K env H = awOps PP [⟨some 5, none, .ld true 3 (.t 2)⟩, ⟨some 6, none, .mov (.t 1)⟩, ⟨some 7, none, .call (.c (.fn (.func 22) [] [])) [.t 5, .t 6]⟩, ⟨some 8, none, .mov (.t 1)⟩, ⟨some 9, none, .bin (.leq) (.t 7) (.t 8)⟩, ⟨some 4, none, .mov (.t 9)⟩] (regK K [1, 2, 5, 6, 7, 8, 9]) (panK K) env H := aw_reg _ _
def lS_small_c2 : AC := .seq lS_small_c1 .ret
@[simp] theorem lS_small_c2_eq : aw PP lS_small_c2 K env H = aw PP lS_small_c1 (seqK PP .ret K) env H := aw_seq lS_small_c1 .ret
def lS_small_c3 : AC := .seq lS_small_c0 lS_small_c2
@[simp] theorem lS_small_c3_eq : aw PP lS_small_c3 K env H = aw PP lS_small_c0 (seqK PP lS_small_c2 K) env H := aw_seq lS_small_c0 lS_small_c2
def lS_small_ac : AC := lS_small_c3
@[simp] theorem lS_small_ac_eq : aw PP lS_small_ac K env H = aw PP lS_small_c3 K env H := Eq.trans rfl rfl
def lS_small_rs : List ARV := [.tmp 4]
abbrev lS_small_id : Nat := 11
theorem lS_small_comp : compF PP lS_small_kl lS_small_ow 2 Tryd.f11 = some (lS_small_ac, lS_small_rs) := by kernel_rfl
theorem lS_small_enter {args : List AV} {H : AHeap} {post : ARes → AHeap → Prop} (ha : args.length = 2) (h : aw PP lS_small_ac (retK lS_small_rs post) (argEnv 0 args) H) : ACalls PP lS_small_id args H post := .enterF Tryd.func11 PP_mix lS_small_comp ha h

/-! emendate.emendatelaw16.awake -/
def lS_awake_kl : Nat → List Nat
  | 0 => [0]
  | 1 => [3, 4]
  | 2 => [5]
  | 3 => [1, 2, 6, 7, 8, 9, 10, 11, 12, 13, 14, 15, 16, 17, 18, 19, 20, 21, 22, 23, 24, 25, 26, 27, 28, 29, 30, 31, 32, 33]
  | _ => []
def lS_awake_ow : Nat → Nat → Bool := fun _ _ => false
def lS_awake_c0 : AC := .reg [⟨some 0, none, .mov (.c (.bool false))⟩] [0]
@[simp] theorem lS_awake_c0_eq : aw PP lS_awake_c0 K env H = awOps PP [⟨some 0, none, .mov (.c (.bool false))⟩] (regK K [0]) (panK K) env H := aw_reg _ _
def lS_awake_c1 : AC := .reg [⟨some 3, none, .call (.c (.fn (.func 21) [] [])) []⟩, ⟨some 4, none, .call (.c (.fn (.func 21) [] [])) []⟩, ⟨some 1, none, .alloc (.struct [.str [], .nils, .nils]) 25⟩, ⟨some 2, none, .alloc (.struct [.str [], .nils, .nils]) 25⟩, ⟨none, none, .st 3 (.t 1) (.t 3)⟩, ⟨none, none, .st 3 (.t 2) (.t 4)⟩] [3, 4]
@[simp] theorem lS_awake_c1_eq : aw PP lS_awake_c1 K env H = awOps PP [⟨some 3, none, .call (.c (.fn (.func 21) [] [])) []⟩, ⟨some 4, none, .call (.c (.fn (.func 21) [] [])) []⟩, ⟨some 1, none, .alloc (.struct [.str [], .nils, .nils]) 25⟩, ⟨some 2, none, .alloc (.struct [.str [], .nils, .nils]) 25⟩, ⟨none, none, .st 3 (.t 1) (.t 3)⟩, ⟨none, none, .st 3 (.t 2) (.t 4)⟩] (regK K [3, 4]) (panK K) env H := aw_reg _ _
def lS_awake_c2 : AC := .reg [⟨some 5, none, .fa 0 0 (.t 2)⟩, ⟨none, none, .st 1 (.t 5) (.c (.str [120]))⟩] [5]
@[simp] theorem lS_awake_c2_eq : aw PP lS_awake_c2 K env H = awOps PP [⟨some 5, none, .fa 0 0 (.t 2)⟩, ⟨none, none, .st 1 (.t 5) (.c (.str [120]))⟩] (regK K [5]) (panK K) env H := aw_reg _ _
def lS_awake_c3_ops : List (AI × List Nat) := [(⟨some 6, none, .ld true 3 (.t 1)⟩, []), (⟨some 7, none, .call (.c (.fn (.func 13) [] [])) [.t 6]⟩, [0]), (⟨some 8, none, .mov (.t 7)⟩, [1, 1]), (⟨some 9, some (8, true), .ld true 3 (.t 2)⟩, [2]), (⟨some 10, some (8, true), .call (.c (.fn (.func 13) [] [])) [.t 9]⟩, [3, 2, 2]), (⟨some 11, some (8, true), .not (.t 10)⟩, [4, 2]), (⟨some 12, none, .pick (.t 8) (.t 11) (.c (.bool false))⟩, [2, 5]), (⟨some 13, none, .mov (.t 12)⟩, [6, 4]), (⟨some 14, some (13, true), .build [.str [], .nils, .nils] []⟩, [7]), (⟨some 15, some (13, true), .call (.c (.fn (.func 13) [] [])) [.t 14]⟩, [8, 7, 7]), (⟨some 16, some (13, true), .not (.t 15)⟩, [9, 7]), (⟨some 17, none, .pick (.t 13) (.t 16) (.c (.bool false))⟩, [7, 10]), (⟨some 18, none, .mov (.t 17)⟩, [11, 9]), (⟨some 19, some (18, true), .ld true 3 (.t 1)⟩, [12]), (⟨some 20, some (18, true), .call (.c (.fn (.func 17) [] [])) [.t 19]⟩, [13, 12, 12]), (⟨some 21, some (18, true), .bin (.eql) (.t 20) (.c (.str [115, 116, 97, 114, 116, 32, 101, 59, 10, 101, 32, 61, 32, 101, 32, 112, 108, 117, 115, 32, 101, 32, 112, 114, 105, 99, 101, 32, 50, 32, 124, 32, 110, 59, 10, 110, 32, 61, 32, 97, 32, 40, 98, 32, 124, 32, 99, 41, 42, 59, 10]))⟩, [14, 12]), (⟨some 22, none, .pick (.t 18) (.t 21) (.c (.bool false))⟩, [12, 15]), (⟨some 23, none, .mov (.t 22)⟩, [16, 14]), (⟨some 24, some (23, true), .ld true 3 (.t 1)⟩, [17]), (⟨some 25, some (23, true), .call (.c (.fn (.func 21) [] [])) []⟩, [17, 17]), (⟨some 26, some (23, true), .call (.c (.fn (.func 15) [] [])) [.t 24, .t 25]⟩, [18, 19, 19, 17]), (⟨some 27, none, .pick (.t 23) (.t 26) (.c (.bool false))⟩, [17, 20]), (⟨some 28, none, .mov (.t 27)⟩, [21, 20]), (⟨some 29, some (28, true), .ld true 3 (.t 1)⟩, [22]), (⟨some 30, some (28, true), .ld true 3 (.t 2)⟩, [22]), (⟨some 31, some (28, true), .call (.c (.fn (.func 15) [] [])) [.t 29, .t 30]⟩, [23, 24, 22, 22]), (⟨some 32, some (28, true), .not (.t 31)⟩, [25, 22]), (⟨some 33, none, .pick (.t 28) (.t 32) (.c (.bool false))⟩, [22, 26]), (⟨some 0, none, .mov (.t 33)⟩, [27, 25, 0, 1, 2, 3, 4, 5, 6, 7, 8, 9, 10, 11, 12, 13, 14, 15, 16, 17, 18, 19, 20, 21, 22, 23, 24, 25, 26, 27])]
def lS_awake_c3 : AC := .dreg lS_awake_c3_ops [1, 2, 6, 7, 8, 9, 10, 11, 12, 13, 14, 15, 16, 17, 18, 19, 20, 21, 22, 23, 24, 25, 26, 27, 28, 29, 30, 31, 32, 33]
theorem lS_awake_c3_ok : lexOK lS_awake_c3_ops (fun i => [].contains i) = true := by kernel_rfl
theorem lS_awake_c3_lex (h : awLex PP (fun i => [].contains i) (regK K [1, 2, 6, 7, 8, 9, 10, 11, 12, 13, 14, 15, 16, 17, 18, 19, 20, 21, 22, 23, 24, 25, 26, 27, 28, 29, 30, 31, 32, 33]) (panK K) [(0, ⟨some 6, none, .ld true 3 (.t 1)⟩), (1, ⟨some 7, none, .call (.c (.fn (.func 13) [] [])) [.t 6]⟩), (2, ⟨some 8, none, .mov (.t 7)⟩), (3, ⟨some 9, some (8, true), .ld true 3 (.t 2)⟩), (4, ⟨some 10, some (8, true), .call (.c (.fn (.func 13) [] [])) [.t 9]⟩), (5, ⟨some 11, some (8, true), .not (.t 10)⟩), (6, ⟨some 12, none, .pick (.t 8) (.t 11) (.c (.bool false))⟩), (7, ⟨some 13, none, .mov (.t 12)⟩), (8, ⟨some 14, some (13, true), .build [.str [], .nils, .nils] []⟩), (9, ⟨some 15, some (13, true), .call (.c (.fn (.func 13) [] [])) [.t 14]⟩), (10, ⟨some 16, some (13, true), .not (.t 15)⟩), (11, ⟨some 17, none, .pick (.t 13) (.t 16) (.c (.bool false))⟩), (12, ⟨some 18, none, .mov (.t 17)⟩), (13, ⟨some 19, some (18, true), .ld true 3 (.t 1)⟩), (14, ⟨some 20, some (18, true), .call (.c (.fn (.func 17) [] [])) [.t 19]⟩), (15, ⟨some 21, some (18, true), .bin (.eql) (.t 20) (.c (.str [115, 116, 97, 114, 116, 32, 101, 59, 10, 101, 32, 61, 32, 101, 32, 112, 108, 117, 115, 32, 101, 32, 112, 114, 105, 99, 101, 32, 50, 32, 124, 32, 110, 59, 10, 110, 32, 61, 32, 97, 32, 40, 98, 32, 124, 32, 99, 41, 42, 59, 10]))⟩), (16, ⟨some 22, none, .pick (.t 18) (.t 21) (.c (.bool false))⟩), (17, ⟨some 23, none, .mov (.t 22)⟩), (18, ⟨some 24, some (23, true), .ld true 3 (.t 1)⟩), (19, ⟨some 25, some (23, true), .call (.c (.fn (.func 21) [] [])) []⟩), (20, ⟨some 26, some (23, true), .call (.c (.fn (.func 15) [] [])) [.t 24, .t 25]⟩), (21, ⟨some 27, none, .pick (.t 23) (.t 26) (.c (.bool false))⟩), (22, ⟨some 28, none, .mov (.t 27)⟩), (23, ⟨some 29, some (28, true), .ld true 3 (.t 1)⟩), (24, ⟨some 30, some (28, true), .ld true 3 (.t 2)⟩), (25, ⟨some 31, some (28, true), .call (.c (.fn (.func 15) [] [])) [.t 29, .t 30]⟩), (26, ⟨some 32, some (28, true), .not (.t 31)⟩), (27, ⟨some 33, none, .pick (.t 28) (.t 32) (.c (.bool false))⟩), (28, ⟨some 0, none, .mov (.t 33)⟩)] env H) : aw PP lS_awake_c3 K env H := aw_dreg_lex _ lS_awake_c3_ok h
theorem lS_awake_c3_okF : lexOKF lS_awake_c3_ops 25 (fun i => [1, 4, 9, 14, 19, 20, 25].contains i) = true := by kernel_rfl
theorem lS_awake_c3_lexF (B : List Nat) (h : awLexF PP 25 (fun i => [1, 4, 9, 14, 19, 20, 25].contains i) B H (regK K [1, 2, 6, 7, 8, 9, 10, 11, 12, 13, 14, 15, 16, 17, 18, 19, 20, 21, 22, 23, 24, 25, 26, 27, 28, 29, 30, 31, 32, 33]) (panK K) [(0, ⟨some 6, none, .ld true 3 (.t 1)⟩), (1, ⟨some 7, none, .call (.c (.fn (.func 13) [] [])) [.t 6]⟩), (2, ⟨some 8, none, .mov (.t 7)⟩), (3, ⟨some 9, some (8, true), .ld true 3 (.t 2)⟩), (4, ⟨some 10, some (8, true), .call (.c (.fn (.func 13) [] [])) [.t 9]⟩), (5, ⟨some 11, some (8, true), .not (.t 10)⟩), (6, ⟨some 12, none, .pick (.t 8) (.t 11) (.c (.bool false))⟩), (7, ⟨some 13, none, .mov (.t 12)⟩), (8, ⟨some 14, some (13, true), .build [.str [], .nils, .nils] []⟩), (9, ⟨some 15, some (13, true), .call (.c (.fn (.func 13) [] [])) [.t 14]⟩), (10, ⟨some 16, some (13, true), .not (.t 15)⟩), (11, ⟨some 17, none, .pick (.t 13) (.t 16) (.c (.bool false))⟩), (12, ⟨some 18, none, .mov (.t 17)⟩), (13, ⟨some 19, some (18, true), .ld true 3 (.t 1)⟩), (14, ⟨some 20, some (18, true), .call (.c (.fn (.func 17) [] [])) [.t 19]⟩), (15, ⟨some 21, some (18, true), .bin (.eql) (.t 20) (.c (.str [115, 116, 97, 114, 116, 32, 101, 59, 10, 101, 32, 61, 32, 101, 32, 112, 108, 117, 115, 32, 101, 32, 112, 114, 105, 99, 101, 32, 50, 32, 124, 32, 110, 59, 10, 110, 32, 61, 32, 97, 32, 40, 98, 32, 124, 32, 99, 41, 42, 59, 10]))⟩), (16, ⟨some 22, none, .pick (.t 18) (.t 21) (.c (.bool false))⟩), (17, ⟨some 23, none, .mov (.t 22)⟩), (18, ⟨some 24, some (23, true), .ld true 3 (.t 1)⟩), (19, ⟨some 25, some (23, true), .call (.c (.fn (.func 21) [] [])) []⟩), (20, ⟨some 26, some (23, true), .call (.c (.fn (.func 15) [] [])) [.t 24, .t 25]⟩), (21, ⟨some 27, none, .pick (.t 23) (.t 26) (.c (.bool false))⟩), (22, ⟨some 28, none, .mov (.t 27)⟩), (23, ⟨some 29, some (28, true), .ld true 3 (.t 1)⟩), (24, ⟨some 30, some (28, true), .ld true 3 (.t 2)⟩), (25, ⟨some 31, some (28, true), .call (.c (.fn (.func 15) [] [])) [.t 29, .t 30]⟩), (26, ⟨some 32, some (28, true), .not (.t 31)⟩), (27, ⟨some 33, none, .pick (.t 28) (.t 32) (.c (.bool false))⟩), (28, ⟨some 0, none, .mov (.t 33)⟩)] env H) : aw PP lS_awake_c3 K env H := aw_dreg_lexF _ _ B lS_awake_c3_okF h
def lS_awake_c4 : AC := .seq lS_awake_c3 .ret
@[simp] theorem lS_awake_c4_eq : aw PP lS_awake_c4 K env H = aw PP lS_awake_c3 (seqK PP .ret K) env H := aw_seq lS_awake_c3 .ret
def lS_awake_c5 : AC := .seq lS_awake_c2 lS_awake_c4
@[simp] theorem lS_awake_c5_eq : aw PP lS_awake_c5 K env H = aw PP lS_awake_c2 (seqK PP lS_awake_c4 K) env H := aw_seq lS_awake_c2 lS_awake_c4
def lS_awake_c6 : AC := .seq lS_awake_c1 lS_awake_c5
@[simp] theorem lS_awake_c6_eq : aw PP lS_awake_c6 K env H = aw PP lS_awake_c1 (seqK PP lS_awake_c5 K) env H := aw_seq lS_awake_c1 lS_awake_c5
def lS_awake_c7 : AC := .seq lS_awake_c0 lS_awake_c6
@[simp] theorem lS_awake_c7_eq : aw PP lS_awake_c7 K env H = aw PP lS_awake_c0 (seqK PP lS_awake_c6 K) env H := aw_seq lS_awake_c0 lS_awake_c6
def lS_awake_ac : AC := lS_awake_c7
@[simp] theorem lS_awake_ac_eq : aw PP lS_awake_ac K env H = aw PP lS_awake_c7 K env H := Eq.trans rfl rfl
def lS_awake_rs : List ARV := [.tmp 0]
abbrev lS_awake_id : Nat := 12
theorem lS_awake_comp : compF PP lS_awake_kl lS_awake_ow 0 Tryd.f12 = some (lS_awake_ac, lS_awake_rs) := by kernel_rfl
theorem lS_awake_enter {args : List AV} {H : AHeap} {post : ARes → AHeap → Prop} (ha : args.length = 0) (h : aw PP lS_awake_ac (retK lS_awake_rs post) (argEnv 0 args) H) : ACalls PP lS_awake_id args H post := .enterF Tryd.func12 PP_mix lS_awake_comp ha h

end Go.Av
