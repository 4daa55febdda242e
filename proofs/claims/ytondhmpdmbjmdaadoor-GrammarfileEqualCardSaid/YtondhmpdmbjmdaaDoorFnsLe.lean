/- Functions of the given program, compiled to the own form by program. -/
import Derived.Test.YtondhmpdmbjmdaaDoorFns66
set_option linter.unusedVariables false
set_option linter.unusedSimpArgs false
namespace Go.Av
open Go Go.Proofs
variable {K : AK} {env : Env} {H : AHeap}
/-! emendate.emendatelaw16.GrammarfileEqual -/
def lF_Equal_kl : Nat → List Nat
  | 0 => [0, 1, 4]
  | 1 => [5, 6, 7, 8, 9, 10, 11]
  | 2 => [2, 3, 12, 13]
  | 3 => [2, 3, 12, 14, 15, 16, 17, 18, 19, 20, 21, 22, 23, 24, 25, 26, 27, 28, 29, 30, 31, 32, 33, 34, 35, 36, 37]
  | _ => []
def lF_Equal_ow : Nat → Nat → Bool := fun _ _ => false
def lF_Equal_c0 : AC := .reg [⟨some 2, none, .box (.t 0) 3 25⟩, ⟨some 3, none, .box (.t 1) 3 25⟩, ⟨some 4, none, .mov (.c (.bool false))⟩] [0, 1, 4]
@[simp] theorem lF_Equal_c0_eq : aw PP lF_Equal_c0 K env H = awOps PP [⟨some 2, none, .box (.t 0) 3 25⟩, ⟨some 3, none, .box (.t 1) 3 25⟩, ⟨some 4, none, .mov (.c (.bool false))⟩] (regK K [0, 1, 4]) (panK K) env H := aw_reg _ _
def lF_Equal_c1 : AC := .reg [⟨some 5, none, .ld true 3 (.t 2)⟩, ⟨some 6, none, .call (.c (.fn (.func 11) [] [])) [.t 5, .c (.int (.i64) 200)]⟩, ⟨some 7, none, .not (.t 6)⟩, ⟨some 8, none, .mov (.t 7)⟩, ⟨some 9, some (8, false), .ld true 3 (.t 3)⟩, ⟨some 10, some (8, false), .call (.c (.fn (.func 11) [] [])) [.t 9, .c (.int (.i64) 200)]⟩, ⟨some 11, some (8, false), .not (.t 10)⟩, ⟨some 12, none, .pick (.t 8) (.c (.bool true)) (.t 11)⟩] [5, 6, 7, 8, 9, 10, 11]
@[simp] theorem lF_Equal_c1_eq : aw PP lF_Equal_c1 K env H = awOps PP [⟨some 5, none, .ld true 3 (.t 2)⟩, ⟨some 6, none, .call (.c (.fn (.func 11) [] [])) [.t 5, .c (.int (.i64) 200)]⟩, ⟨some 7, none, .not (.t 6)⟩, ⟨some 8, none, .mov (.t 7)⟩, ⟨some 9, some (8, false), .ld true 3 (.t 3)⟩, ⟨some 10, some (8, false), .call (.c (.fn (.func 11) [] [])) [.t 9, .c (.int (.i64) 200)]⟩, ⟨some 11, some (8, false), .not (.t 10)⟩, ⟨some 12, none, .pick (.t 8) (.c (.bool true)) (.t 11)⟩] (regK K [5, 6, 7, 8, 9, 10, 11]) (panK K) env H := aw_reg _ _
def lF_Equal_c2 : AC := .reg [⟨some 13, none, .call (.c (.fn (.func 12) [] [])) []⟩, ⟨some 4, none, .mov (.t 13)⟩] [2, 3, 12, 13]
@[simp] theorem lF_Equal_c2_eq : aw PP lF_Equal_c2 K env H = awOps PP [⟨some 13, none, .call (.c (.fn (.func 12) [] [])) []⟩, ⟨some 4, none, .mov (.t 13)⟩] (regK K [2, 3, 12, 13]) (panK K) env H := aw_reg _ _
def lF_Equal_c3 : AC := .seq lF_Equal_c2 .ret
@[simp] theorem lF_Equal_c3_eq : aw PP lF_Equal_c3 K env H = aw PP lF_Equal_c2 (seqK PP .ret K) env H := aw_seq lF_Equal_c2 .ret
def lF_Equal_c4 : AC := .cond (.t 12) lF_Equal_c3 .skip
@[simp] theorem lF_Equal_c4_eq : aw PP lF_Equal_c4 K env H = condQ PP (Opd.ev env (.t 12)) lF_Equal_c3 .skip K env H := aw_cond _ lF_Equal_c3 .skip
def lF_Equal_c5 : AC := .seq lF_Equal_c1 lF_Equal_c4
@[simp] theorem lF_Equal_c5_eq : aw PP lF_Equal_c5 K env H = aw PP lF_Equal_c1 (seqK PP lF_Equal_c4 K) env H := aw_seq lF_Equal_c1 lF_Equal_c4
def lF_Equal_c6_ops : List (AI × List Nat) := [(⟨some 14, none, .call (.c (.fn (.func 12) [] [])) []⟩, []), (⟨some 15, none, .mov (.t 14)⟩, [0, 0]), (⟨some 16, some (15, true), .ld true 3 (.t 2)⟩, [1]), (⟨some 17, some (15, true), .ld true 3 (.t 3)⟩, [1]), (⟨some 18, some (15, true), .call (.c (.fn (.func 15) [] [])) [.t 16, .t 17]⟩, [2, 3, 1, 1]), (⟨some 19, some (15, true), .ld true 3 (.t 2)⟩, [1]), (⟨some 20, some (15, true), .ld true 3 (.t 3)⟩, [1]), (⟨some 21, some (15, true), .call (.c (.fn (.func 16) [] [])) [.t 19, .t 20]⟩, [5, 6, 4, 1]), (⟨some 22, some (15, true), .beq false (.t 18) (.t 21)⟩, [4, 7, 1]), (⟨some 23, none, .pick (.t 15) (.t 22) (.c (.bool false))⟩, [1, 8]), (⟨some 24, none, .mov (.t 23)⟩, [9, 7]), (⟨some 25, some (24, true), .ld true 3 (.t 2)⟩, [10]), (⟨some 26, some (24, true), .ld true 3 (.t 2)⟩, [10]), (⟨some 27, some (24, true), .call (.c (.fn (.func 15) [] [])) [.t 25, .t 26]⟩, [11, 12, 10, 10]), (⟨some 28, none, .pick (.t 24) (.t 27) (.c (.bool false))⟩, [10, 13]), (⟨some 29, none, .mov (.t 28)⟩, [14, 13]), (⟨some 30, some (29, true), .ld true 3 (.t 3)⟩, [15]), (⟨some 31, some (29, true), .ld true 3 (.t 2)⟩, [15]), (⟨some 32, some (29, true), .call (.c (.fn (.func 15) [] [])) [.t 30, .t 31]⟩, [16, 17, 15, 15]), (⟨some 33, some (29, true), .ld true 3 (.t 2)⟩, [15]), (⟨some 34, some (29, true), .ld true 3 (.t 3)⟩, [15]), (⟨some 35, some (29, true), .call (.c (.fn (.func 15) [] [])) [.t 33, .t 34]⟩, [19, 20, 18, 15]), (⟨some 36, some (29, true), .beq false (.t 32) (.t 35)⟩, [18, 21, 15]), (⟨some 37, none, .pick (.t 29) (.t 36) (.c (.bool false))⟩, [15, 22]), (⟨some 4, none, .mov (.t 37)⟩, [23, 21, 0, 1, 2, 3, 4, 5, 6, 7, 8, 9, 10, 11, 12, 13, 14, 15, 16, 17, 18, 19, 20, 21, 22, 23])]
def lF_Equal_c6 : AC := .dreg lF_Equal_c6_ops [2, 3, 12, 14, 15, 16, 17, 18, 19, 20, 21, 22, 23, 24, 25, 26, 27, 28, 29, 30, 31, 32, 33, 34, 35, 36, 37]
theorem lF_Equal_c6_ok : lexOK lF_Equal_c6_ops (fun i => [].contains i) = true := by kernel_rfl
theorem lF_Equal_c6_lex (h : awLex PP (fun i => [].contains i) (regK K [2, 3, 12, 14, 15, 16, 17, 18, 19, 20, 21, 22, 23, 24, 25, 26, 27, 28, 29, 30, 31, 32, 33, 34, 35, 36, 37]) (panK K) [(0, ⟨some 14, none, .call (.c (.fn (.func 12) [] [])) []⟩), (1, ⟨some 15, none, .mov (.t 14)⟩), (2, ⟨some 16, some (15, true), .ld true 3 (.t 2)⟩), (3, ⟨some 17, some (15, true), .ld true 3 (.t 3)⟩), (4, ⟨some 18, some (15, true), .call (.c (.fn (.func 15) [] [])) [.t 16, .t 17]⟩), (5, ⟨some 19, some (15, true), .ld true 3 (.t 2)⟩), (6, ⟨some 20, some (15, true), .ld true 3 (.t 3)⟩), (7, ⟨some 21, some (15, true), .call (.c (.fn (.func 16) [] [])) [.t 19, .t 20]⟩), (8, ⟨some 22, some (15, true), .beq false (.t 18) (.t 21)⟩), (9, ⟨some 23, none, .pick (.t 15) (.t 22) (.c (.bool false))⟩), (10, ⟨some 24, none, .mov (.t 23)⟩), (11, ⟨some 25, some (24, true), .ld true 3 (.t 2)⟩), (12, ⟨some 26, some (24, true), .ld true 3 (.t 2)⟩), (13, ⟨some 27, some (24, true), .call (.c (.fn (.func 15) [] [])) [.t 25, .t 26]⟩), (14, ⟨some 28, none, .pick (.t 24) (.t 27) (.c (.bool false))⟩), (15, ⟨some 29, none, .mov (.t 28)⟩), (16, ⟨some 30, some (29, true), .ld true 3 (.t 3)⟩), (17, ⟨some 31, some (29, true), .ld true 3 (.t 2)⟩), (18, ⟨some 32, some (29, true), .call (.c (.fn (.func 15) [] [])) [.t 30, .t 31]⟩), (19, ⟨some 33, some (29, true), .ld true 3 (.t 2)⟩), (20, ⟨some 34, some (29, true), .ld true 3 (.t 3)⟩), (21, ⟨some 35, some (29, true), .call (.c (.fn (.func 15) [] [])) [.t 33, .t 34]⟩), (22, ⟨some 36, some (29, true), .beq false (.t 32) (.t 35)⟩), (23, ⟨some 37, none, .pick (.t 29) (.t 36) (.c (.bool false))⟩), (24, ⟨some 4, none, .mov (.t 37)⟩)] env H) : aw PP lF_Equal_c6 K env H := aw_dreg_lex _ lF_Equal_c6_ok h
def lF_Equal_c7 : AC := .seq lF_Equal_c6 .ret
@[simp] theorem lF_Equal_c7_eq : aw PP lF_Equal_c7 K env H = aw PP lF_Equal_c6 (seqK PP .ret K) env H := aw_seq lF_Equal_c6 .ret
def lF_Equal_c8 : AC := .seq lF_Equal_c5 lF_Equal_c7
@[simp] theorem lF_Equal_c8_eq : aw PP lF_Equal_c8 K env H = aw PP lF_Equal_c5 (seqK PP lF_Equal_c7 K) env H := aw_seq lF_Equal_c5 lF_Equal_c7
def lF_Equal_c9 : AC := .seq lF_Equal_c0 lF_Equal_c8
@[simp] theorem lF_Equal_c9_eq : aw PP lF_Equal_c9 K env H = aw PP lF_Equal_c0 (seqK PP lF_Equal_c8 K) env H := aw_seq lF_Equal_c0 lF_Equal_c8
def lF_Equal_ac : AC := lF_Equal_c9
@[simp] theorem lF_Equal_ac_eq : aw PP lF_Equal_ac K env H = aw PP lF_Equal_c9 K env H := Eq.trans rfl rfl
def lF_Equal_rs : List ARV := [.tmp 4]
abbrev lF_Equal_id : Nat := 4
theorem lF_Equal_comp : compF PP lF_Equal_kl lF_Equal_ow 2 Tryd.f4 = some (lF_Equal_ac, lF_Equal_rs) := by kernel_rfl
theorem lF_Equal_enter {args : List AV} {H : AHeap} {post : ARes → AHeap → Prop} (ha : args.length = 2) (h : aw PP lF_Equal_ac (retK lF_Equal_rs post) (argEnv 0 args) H) : ACalls PP lF_Equal_id args H post := .enterF Tryd.func4 PP_mix lF_Equal_comp ha h

end Go.Av
