/- Functions of the given program, compiled to the own form by program. -/
import Derived.Test.YtondhmpdmbjmdaaDoorFns9
set_option linter.unusedVariables false
set_option linter.unusedSimpArgs false
namespace Go.Av
open Go Go.Proofs
variable {K : AK} {env : Env} {H : AHeap}
/-! emendate.emendatelaw16.GrammarfileValid -/
def lF_Valid_kl : Nat → List Nat
  | 0 => [0, 2]
  | 1 => [3, 4]
  | 2 => [1, 5, 6]
  | 3 => [1, 5, 7, 8, 9, 10, 11, 12, 13, 14]
  | _ => []
def lF_Valid_ow : Nat → Nat → Bool := fun _ _ => false
def lF_Valid_c0 : AC := .reg [⟨some 1, none, .box (.t 0) 3 25⟩, ⟨some 2, none, .mov (.c (.bool false))⟩] [0, 2]
@[simp] theorem lF_Valid_c0_eq : aw PP lF_Valid_c0 K env H = awOps PP [⟨some 1, none, .box (.t 0) 3 25⟩, ⟨some 2, none, .mov (.c (.bool false))⟩] (regK K [0, 2]) (panK K) env H := aw_reg _ _
def lF_Valid_c1 : AC := .reg [⟨some 3, none, .ld true 3 (.t 1)⟩, ⟨some 4, none, .call (.c (.fn (.func 11) [] [])) [.t 3, .c (.int (.i64) 200)]⟩, ⟨some 5, none, .not (.t 4)⟩] [3, 4]
@[simp] theorem lF_Valid_c1_eq : aw PP lF_Valid_c1 K env H = awOps PP [⟨some 3, none, .ld true 3 (.t 1)⟩, ⟨some 4, none, .call (.c (.fn (.func 11) [] [])) [.t 3, .c (.int (.i64) 200)]⟩, ⟨some 5, none, .not (.t 4)⟩] (regK K [3, 4]) (panK K) env H := aw_reg _ _
def lF_Valid_c2 : AC := .reg [⟨some 6, none, .call (.c (.fn (.func 12) [] [])) []⟩, ⟨some 2, none, .mov (.t 6)⟩] [1, 5, 6]
@[simp] theorem lF_Valid_c2_eq : aw PP lF_Valid_c2 K env H = awOps PP [⟨some 6, none, .call (.c (.fn (.func 12) [] [])) []⟩, ⟨some 2, none, .mov (.t 6)⟩] (regK K [1, 5, 6]) (panK K) env H := aw_reg _ _
def lF_Valid_c3 : AC := .seq lF_Valid_c2 .ret
@[simp] theorem lF_Valid_c3_eq : aw PP lF_Valid_c3 K env H = aw PP lF_Valid_c2 (seqK PP .ret K) env H := aw_seq lF_Valid_c2 .ret
def lF_Valid_c4 : AC := .cond (.t 5) lF_Valid_c3 .skip
@[simp] theorem lF_Valid_c4_eq : aw PP lF_Valid_c4 K env H = condQ PP (Opd.ev env (.t 5)) lF_Valid_c3 .skip K env H := aw_cond _ lF_Valid_c3 .skip
def lF_Valid_c5 : AC := .seq lF_Valid_c1 lF_Valid_c4
@[simp] theorem lF_Valid_c5_eq : aw PP lF_Valid_c5 K env H = aw PP lF_Valid_c1 (seqK PP lF_Valid_c4 K) env H := aw_seq lF_Valid_c1 lF_Valid_c4
def lF_Valid_c6_ops : List (AI × List Nat) := [(⟨some 7, none, .call (.c (.fn (.func 12) [] [])) []⟩, []), (⟨some 8, none, .mov (.t 7)⟩, [0, 0]), (⟨some 9, some (8, true), .ld true 3 (.t 1)⟩, [1]), (⟨some 10, some (8, true), .call (.c (.fn (.func 13) [] [])) [.t 9]⟩, [2, 1, 1]), (⟨some 11, some (8, true), .ld true 3 (.t 1)⟩, [1]), (⟨some 12, some (8, true), .call (.c (.fn (.func 14) [] [])) [.t 11]⟩, [4, 3, 1]), (⟨some 13, some (8, true), .beq false (.t 10) (.t 12)⟩, [3, 5, 1]), (⟨some 14, none, .pick (.t 8) (.t 13) (.c (.bool false))⟩, [1, 6]), (⟨some 2, none, .mov (.t 14)⟩, [7, 5, 0, 1, 2, 3, 4, 5, 6, 7])]
def lF_Valid_c6 : AC := .dreg lF_Valid_c6_ops [1, 5, 7, 8, 9, 10, 11, 12, 13, 14]
theorem lF_Valid_c6_ok : lexOK lF_Valid_c6_ops (fun i => [].contains i) = true := by kernel_rfl
theorem lF_Valid_c6_lex (h : awLex PP (fun i => [].contains i) (regK K [1, 5, 7, 8, 9, 10, 11, 12, 13, 14]) (panK K) [(0, ⟨some 7, none, .call (.c (.fn (.func 12) [] [])) []⟩), (1, ⟨some 8, none, .mov (.t 7)⟩), (2, ⟨some 9, some (8, true), .ld true 3 (.t 1)⟩), (3, ⟨some 10, some (8, true), .call (.c (.fn (.func 13) [] [])) [.t 9]⟩), (4, ⟨some 11, some (8, true), .ld true 3 (.t 1)⟩), (5, ⟨some 12, some (8, true), .call (.c (.fn (.func 14) [] [])) [.t 11]⟩), (6, ⟨some 13, some (8, true), .beq false (.t 10) (.t 12)⟩), (7, ⟨some 14, none, .pick (.t 8) (.t 13) (.c (.bool false))⟩), (8, ⟨some 2, none, .mov (.t 14)⟩)] env H) : aw PP lF_Valid_c6 K env H := aw_dreg_lex _ lF_Valid_c6_ok h
def lF_Valid_c7 : AC := .seq lF_Valid_c6 .ret
@[simp] theorem lF_Valid_c7_eq : aw PP lF_Valid_c7 K env H = aw PP lF_Valid_c6 (seqK PP .ret K) env H := aw_seq lF_Valid_c6 .ret
def lF_Valid_c8 : AC := .seq lF_Valid_c5 lF_Valid_c7
@[simp] theorem lF_Valid_c8_eq : aw PP lF_Valid_c8 K env H = aw PP lF_Valid_c5 (seqK PP lF_Valid_c7 K) env H := aw_seq lF_Valid_c5 lF_Valid_c7
def lF_Valid_c9 : AC := .seq lF_Valid_c0 lF_Valid_c8
@[simp] theorem lF_Valid_c9_eq : aw PP lF_Valid_c9 K env H = aw PP lF_Valid_c0 (seqK PP lF_Valid_c8 K) env H := aw_seq lF_Valid_c0 lF_Valid_c8
def lF_Valid_ac : AC := lF_Valid_c9
@[simp] theorem lF_Valid_ac_eq : aw PP lF_Valid_ac K env H = aw PP lF_Valid_c9 K env H := Eq.trans rfl rfl
def lF_Valid_rs : List ARV := [.tmp 2]
abbrev lF_Valid_id : Nat := 3
theorem lF_Valid_comp : compF PP lF_Valid_kl lF_Valid_ow 1 Tryd.f3 = some (lF_Valid_ac, lF_Valid_rs) := by kernel_rfl
theorem lF_Valid_enter {args : List AV} {H : AHeap} {post : ARes → AHeap → Prop} (ha : args.length = 1) (h : aw PP lF_Valid_ac (retK lF_Valid_rs post) (argEnv 0 args) H) : ACalls PP lF_Valid_id args H post := .enterF Tryd.func3 PP_mix lF_Valid_comp ha h

end Go.Av
