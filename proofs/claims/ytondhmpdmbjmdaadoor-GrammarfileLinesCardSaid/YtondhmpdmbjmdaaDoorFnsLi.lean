/- Functions of the given program, compiled to the own form by program. -/
import Derived.Test.YtondhmpdmbjmdaaDoorFns9
set_option linter.unusedVariables false
set_option linter.unusedSimpArgs false
namespace Go.Av
open Go Go.Proofs
variable {K : AK} {env : Env} {H : AHeap}
/-! emendate.emendatelaw16.GrammarfileInjective -/
def lF_Injective_kl : Nat → List Nat
  | 0 => [0, 1, 4]
  | 1 => [5, 6, 7, 8, 9, 10, 11, 12, 13, 14, 15, 16, 17, 18, 19, 20, 21]
  | 2 => [2, 3, 22, 23]
  | 3 => [2, 3, 22, 24, 25, 26, 27, 28, 29, 30, 31, 32, 33, 34, 35]
  | _ => []
def lF_Injective_ow : Nat → Nat → Bool := fun _ _ => false
def lF_Injective_c0 : AC := .reg [⟨some 2, none, .box (.t 0) 3 25⟩, ⟨some 3, none, .box (.t 1) 3 25⟩, ⟨some 4, none, .mov (.c (.bool false))⟩] [0, 1, 4]
@[simp] theorem lF_Injective_c0_eq : aw PP lF_Injective_c0 K env H = awOps PP [⟨some 2, none, .box (.t 0) 3 25⟩, ⟨some 3, none, .box (.t 1) 3 25⟩, ⟨some 4, none, .mov (.c (.bool false))⟩] (regK K [0, 1, 4]) (panK K) env H := aw_reg _ _
def lF_Injective_c1 : AC := .reg [⟨some 5, none, .ld true 3 (.t 2)⟩, ⟨some 6, none, .call (.c (.fn (.func 11) [] [])) [.t 5, .c (.int (.i64) 200)]⟩, ⟨some 7, none, .not (.t 6)⟩, ⟨some 8, none, .mov (.t 7)⟩, ⟨some 9, some (8, false), .ld true 3 (.t 3)⟩, ⟨some 10, some (8, false), .call (.c (.fn (.func 11) [] [])) [.t 9, .c (.int (.i64) 200)]⟩, ⟨some 11, some (8, false), .not (.t 10)⟩, ⟨some 12, none, .pick (.t 8) (.c (.bool true)) (.t 11)⟩, ⟨some 13, none, .mov (.t 12)⟩, ⟨some 14, some (13, false), .ld true 3 (.t 2)⟩, ⟨some 15, some (13, false), .call (.c (.fn (.func 14) [] [])) [.t 14]⟩, ⟨some 16, some (13, false), .not (.t 15)⟩, ⟨some 17, none, .pick (.t 13) (.c (.bool true)) (.t 16)⟩, ⟨some 18, none, .mov (.t 17)⟩, ⟨some 19, some (18, false), .ld true 3 (.t 3)⟩, ⟨some 20, some (18, false), .call (.c (.fn (.func 14) [] [])) [.t 19]⟩, ⟨some 21, some (18, false), .not (.t 20)⟩, ⟨some 22, none, .pick (.t 18) (.c (.bool true)) (.t 21)⟩] [5, 6, 7, 8, 9, 10, 11, 12, 13, 14, 15, 16, 17, 18, 19, 20, 21]
@[simp] theorem lF_Injective_c1_eq : aw PP lF_Injective_c1 K env H = awOps PP [⟨some 5, none, .ld true 3 (.t 2)⟩, ⟨some 6, none, .call (.c (.fn (.func 11) [] [])) [.t 5, .c (.int (.i64) 200)]⟩, ⟨some 7, none, .not (.t 6)⟩, ⟨some 8, none, .mov (.t 7)⟩, ⟨some 9, some (8, false), .ld true 3 (.t 3)⟩, ⟨some 10, some (8, false), .call (.c (.fn (.func 11) [] [])) [.t 9, .c (.int (.i64) 200)]⟩, ⟨some 11, some (8, false), .not (.t 10)⟩, ⟨some 12, none, .pick (.t 8) (.c (.bool true)) (.t 11)⟩, ⟨some 13, none, .mov (.t 12)⟩, ⟨some 14, some (13, false), .ld true 3 (.t 2)⟩, ⟨some 15, some (13, false), .call (.c (.fn (.func 14) [] [])) [.t 14]⟩, ⟨some 16, some (13, false), .not (.t 15)⟩, ⟨some 17, none, .pick (.t 13) (.c (.bool true)) (.t 16)⟩, ⟨some 18, none, .mov (.t 17)⟩, ⟨some 19, some (18, false), .ld true 3 (.t 3)⟩, ⟨some 20, some (18, false), .call (.c (.fn (.func 14) [] [])) [.t 19]⟩, ⟨some 21, some (18, false), .not (.t 20)⟩, ⟨some 22, none, .pick (.t 18) (.c (.bool true)) (.t 21)⟩] (regK K [5, 6, 7, 8, 9, 10, 11, 12, 13, 14, 15, 16, 17, 18, 19, 20, 21]) (panK K) env H := aw_reg _ _
def lF_Injective_c2 : AC := .reg [⟨some 23, none, .call (.c (.fn (.func 12) [] [])) []⟩, ⟨some 4, none, .mov (.t 23)⟩] [2, 3, 22, 23]
@[simp] theorem lF_Injective_c2_eq : aw PP lF_Injective_c2 K env H = awOps PP [⟨some 23, none, .call (.c (.fn (.func 12) [] [])) []⟩, ⟨some 4, none, .mov (.t 23)⟩] (regK K [2, 3, 22, 23]) (panK K) env H := aw_reg _ _
def lF_Injective_c3 : AC := .seq lF_Injective_c2 .ret
@[simp] theorem lF_Injective_c3_eq : aw PP lF_Injective_c3 K env H = aw PP lF_Injective_c2 (seqK PP .ret K) env H := aw_seq lF_Injective_c2 .ret
def lF_Injective_c4 : AC := .cond (.t 22) lF_Injective_c3 .skip
@[simp] theorem lF_Injective_c4_eq : aw PP lF_Injective_c4 K env H = condQ PP (Opd.ev env (.t 22)) lF_Injective_c3 .skip K env H := aw_cond _ lF_Injective_c3 .skip
def lF_Injective_c5 : AC := .seq lF_Injective_c1 lF_Injective_c4
@[simp] theorem lF_Injective_c5_eq : aw PP lF_Injective_c5 K env H = aw PP lF_Injective_c1 (seqK PP lF_Injective_c4 K) env H := aw_seq lF_Injective_c1 lF_Injective_c4
def lF_Injective_c6_ops : List (AI × List Nat) := [(⟨some 24, none, .call (.c (.fn (.func 12) [] [])) []⟩, []), (⟨some 25, none, .mov (.t 24)⟩, [0, 0]), (⟨some 26, some (25, true), .ld true 3 (.t 2)⟩, [1]), (⟨some 27, some (25, true), .call (.c (.fn (.func 17) [] [])) [.t 26]⟩, [2, 1, 1]), (⟨some 28, some (25, true), .ld true 3 (.t 3)⟩, [1]), (⟨some 29, some (25, true), .call (.c (.fn (.func 17) [] [])) [.t 28]⟩, [4, 3, 1]), (⟨some 30, some (25, true), .bin (.eql) (.t 27) (.t 29)⟩, [3, 5, 1]), (⟨some 31, some (25, true), .ld true 3 (.t 2)⟩, [1]), (⟨some 32, some (25, true), .ld true 3 (.t 3)⟩, [1]), (⟨some 33, some (25, true), .call (.c (.fn (.func 15) [] [])) [.t 31, .t 32]⟩, [7, 8, 5, 1]), (⟨some 34, some (25, true), .beq false (.t 30) (.t 33)⟩, [6, 9, 1]), (⟨some 35, none, .pick (.t 25) (.t 34) (.c (.bool false))⟩, [1, 10]), (⟨some 4, none, .mov (.t 35)⟩, [11, 9, 0, 1, 2, 3, 4, 5, 6, 7, 8, 9, 10, 11])]
def lF_Injective_c6 : AC := .dreg lF_Injective_c6_ops [2, 3, 22, 24, 25, 26, 27, 28, 29, 30, 31, 32, 33, 34, 35]
theorem lF_Injective_c6_ok : lexOK lF_Injective_c6_ops (fun i => [].contains i) = true := by kernel_rfl
theorem lF_Injective_c6_lex (h : awLex PP (fun i => [].contains i) (regK K [2, 3, 22, 24, 25, 26, 27, 28, 29, 30, 31, 32, 33, 34, 35]) (panK K) [(0, ⟨some 24, none, .call (.c (.fn (.func 12) [] [])) []⟩), (1, ⟨some 25, none, .mov (.t 24)⟩), (2, ⟨some 26, some (25, true), .ld true 3 (.t 2)⟩), (3, ⟨some 27, some (25, true), .call (.c (.fn (.func 17) [] [])) [.t 26]⟩), (4, ⟨some 28, some (25, true), .ld true 3 (.t 3)⟩), (5, ⟨some 29, some (25, true), .call (.c (.fn (.func 17) [] [])) [.t 28]⟩), (6, ⟨some 30, some (25, true), .bin (.eql) (.t 27) (.t 29)⟩), (7, ⟨some 31, some (25, true), .ld true 3 (.t 2)⟩), (8, ⟨some 32, some (25, true), .ld true 3 (.t 3)⟩), (9, ⟨some 33, some (25, true), .call (.c (.fn (.func 15) [] [])) [.t 31, .t 32]⟩), (10, ⟨some 34, some (25, true), .beq false (.t 30) (.t 33)⟩), (11, ⟨some 35, none, .pick (.t 25) (.t 34) (.c (.bool false))⟩), (12, ⟨some 4, none, .mov (.t 35)⟩)] env H) : aw PP lF_Injective_c6 K env H := aw_dreg_lex _ lF_Injective_c6_ok h
def lF_Injective_c7 : AC := .seq lF_Injective_c6 .ret
@[simp] theorem lF_Injective_c7_eq : aw PP lF_Injective_c7 K env H = aw PP lF_Injective_c6 (seqK PP .ret K) env H := aw_seq lF_Injective_c6 .ret
def lF_Injective_c8 : AC := .seq lF_Injective_c5 lF_Injective_c7
@[simp] theorem lF_Injective_c8_eq : aw PP lF_Injective_c8 K env H = aw PP lF_Injective_c5 (seqK PP lF_Injective_c7 K) env H := aw_seq lF_Injective_c5 lF_Injective_c7
def lF_Injective_c9 : AC := .seq lF_Injective_c0 lF_Injective_c8
@[simp] theorem lF_Injective_c9_eq : aw PP lF_Injective_c9 K env H = aw PP lF_Injective_c0 (seqK PP lF_Injective_c8 K) env H := aw_seq lF_Injective_c0 lF_Injective_c8
def lF_Injective_ac : AC := lF_Injective_c9
@[simp] theorem lF_Injective_ac_eq : aw PP lF_Injective_ac K env H = aw PP lF_Injective_c9 K env H := Eq.trans rfl rfl
def lF_Injective_rs : List ARV := [.tmp 4]
abbrev lF_Injective_id : Nat := 6
theorem lF_Injective_comp : compF PP lF_Injective_kl lF_Injective_ow 2 Tryd.f6 = some (lF_Injective_ac, lF_Injective_rs) := by kernel_rfl
theorem lF_Injective_enter {args : List AV} {H : AHeap} {post : ARes → AHeap → Prop} (ha : args.length = 2) (h : aw PP lF_Injective_ac (retK lF_Injective_rs post) (argEnv 0 args) H) : ACalls PP lF_Injective_id args H post := .enterF Tryd.func6 PP_mix lF_Injective_comp ha h

end Go.Av
