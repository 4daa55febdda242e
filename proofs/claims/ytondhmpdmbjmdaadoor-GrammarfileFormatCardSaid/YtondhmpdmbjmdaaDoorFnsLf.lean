/- Functions of the given program, compiled to the own form by program. -/
import Derived.Test.YtondhmpdmbjmdaaDoorFns9
set_option linter.unusedVariables false
set_option linter.unusedSimpArgs false
namespace Go.Av
open Go Go.Proofs
variable {K : AK} {env : Env} {H : AHeap}
/-! emendate.emendatelaw16.GrammarfileFormat -/
def lF_Format_kl : Nat → List Nat
  | 0 => [0, 2]
  | 1 => [3, 4, 5, 6, 7, 8, 9]
  | 2 => [1, 10, 11]
  | 3 => [1, 10, 12, 13, 14, 15, 16, 17, 18, 19]
  | _ => []
def lF_Format_ow : Nat → Nat → Bool := fun _ _ => false
def lF_Format_c0 : AC := .reg [⟨some 1, none, .box (.t 0) 3 25⟩, ⟨some 2, none, .mov (.c (.bool false))⟩] [0, 2]
@[simp] theorem lF_Format_c0_eq : aw PP lF_Format_c0 K env H = awOps PP [⟨some 1, none, .box (.t 0) 3 25⟩, ⟨some 2, none, .mov (.c (.bool false))⟩] (regK K [0, 2]) (panK K) env H := aw_reg _ _
def lF_Format_c1 : AC := .reg [⟨some 3, none, .ld true 3 (.t 1)⟩, ⟨some 4, none, .call (.c (.fn (.func 11) [] [])) [.t 3, .c (.int (.i64) 200)]⟩, ⟨some 5, none, .not (.t 4)⟩, ⟨some 6, none, .mov (.t 5)⟩, ⟨some 7, some (6, false), .ld true 3 (.t 1)⟩, ⟨some 8, some (6, false), .call (.c (.fn (.func 14) [] [])) [.t 7]⟩, ⟨some 9, some (6, false), .not (.t 8)⟩, ⟨some 10, none, .pick (.t 6) (.c (.bool true)) (.t 9)⟩] [3, 4, 5, 6, 7, 8, 9]
@[simp] theorem lF_Format_c1_eq : aw PP lF_Format_c1 K env H = awOps PP [⟨some 3, none, .ld true 3 (.t 1)⟩, ⟨some 4, none, .call (.c (.fn (.func 11) [] [])) [.t 3, .c (.int (.i64) 200)]⟩, ⟨some 5, none, .not (.t 4)⟩, ⟨some 6, none, .mov (.t 5)⟩, ⟨some 7, some (6, false), .ld true 3 (.t 1)⟩, ⟨some 8, some (6, false), .call (.c (.fn (.func 14) [] [])) [.t 7]⟩, ⟨some 9, some (6, false), .not (.t 8)⟩, ⟨some 10, none, .pick (.t 6) (.c (.bool true)) (.t 9)⟩] (regK K [3, 4, 5, 6, 7, 8, 9]) (panK K) env H := aw_reg _ _
def lF_Format_c2 : AC := .reg [⟨some 11, none, .call (.c (.fn (.func 12) [] [])) []⟩, ⟨some 2, none, .mov (.t 11)⟩] [1, 10, 11]
@[simp] theorem lF_Format_c2_eq : aw PP lF_Format_c2 K env H = awOps PP [⟨some 11, none, .call (.c (.fn (.func 12) [] [])) []⟩, ⟨some 2, none, .mov (.t 11)⟩] (regK K [1, 10, 11]) (panK K) env H := aw_reg _ _
def lF_Format_c3 : AC := .seq lF_Format_c2 .ret
@[simp] theorem lF_Format_c3_eq : aw PP lF_Format_c3 K env H = aw PP lF_Format_c2 (seqK PP .ret K) env H := aw_seq lF_Format_c2 .ret
def lF_Format_c4 : AC := .cond (.t 10) lF_Format_c3 .skip
@[simp] theorem lF_Format_c4_eq : aw PP lF_Format_c4 K env H = condQ PP (Opd.ev env (.t 10)) lF_Format_c3 .skip K env H := aw_cond _ lF_Format_c3 .skip
def lF_Format_c5 : AC := .seq lF_Format_c1 lF_Format_c4
@[simp] theorem lF_Format_c5_eq : aw PP lF_Format_c5 K env H = aw PP lF_Format_c1 (seqK PP lF_Format_c4 K) env H := aw_seq lF_Format_c1 lF_Format_c4
def lF_Format_c6_ops : List (AI × List Nat) := [(⟨some 12, none, .call (.c (.fn (.func 12) [] [])) []⟩, []), (⟨some 13, none, .mov (.t 12)⟩, [0, 0]), (⟨some 14, some (13, true), .ld true 3 (.t 1)⟩, [1]), (⟨some 15, some (13, true), .call (.c (.fn (.func 17) [] [])) [.t 14]⟩, [2, 1, 1]), (⟨some 16, some (13, true), .ld true 3 (.t 1)⟩, [1]), (⟨some 17, some (13, true), .call (.c (.fn (.func 18) [] [])) [.t 16]⟩, [4, 3, 1]), (⟨some 18, some (13, true), .bin (.eql) (.t 15) (.t 17)⟩, [3, 5, 1]), (⟨some 19, none, .pick (.t 13) (.t 18) (.c (.bool false))⟩, [1, 6]), (⟨some 2, none, .mov (.t 19)⟩, [7, 5, 0, 1, 2, 3, 4, 5, 6, 7])]
def lF_Format_c6 : AC := .dreg lF_Format_c6_ops [1, 10, 12, 13, 14, 15, 16, 17, 18, 19]
theorem lF_Format_c6_ok : lexOK lF_Format_c6_ops (fun i => [].contains i) = true := by kernel_rfl
theorem lF_Format_c6_lex (h : awLex PP (fun i => [].contains i) (regK K [1, 10, 12, 13, 14, 15, 16, 17, 18, 19]) (panK K) [(0, ⟨some 12, none, .call (.c (.fn (.func 12) [] [])) []⟩), (1, ⟨some 13, none, .mov (.t 12)⟩), (2, ⟨some 14, some (13, true), .ld true 3 (.t 1)⟩), (3, ⟨some 15, some (13, true), .call (.c (.fn (.func 17) [] [])) [.t 14]⟩), (4, ⟨some 16, some (13, true), .ld true 3 (.t 1)⟩), (5, ⟨some 17, some (13, true), .call (.c (.fn (.func 18) [] [])) [.t 16]⟩), (6, ⟨some 18, some (13, true), .bin (.eql) (.t 15) (.t 17)⟩), (7, ⟨some 19, none, .pick (.t 13) (.t 18) (.c (.bool false))⟩), (8, ⟨some 2, none, .mov (.t 19)⟩)] env H) : aw PP lF_Format_c6 K env H := aw_dreg_lex _ lF_Format_c6_ok h
def lF_Format_c7 : AC := .seq lF_Format_c6 .ret
@[simp] theorem lF_Format_c7_eq : aw PP lF_Format_c7 K env H = aw PP lF_Format_c6 (seqK PP .ret K) env H := aw_seq lF_Format_c6 .ret
def lF_Format_c8 : AC := .seq lF_Format_c5 lF_Format_c7
@[simp] theorem lF_Format_c8_eq : aw PP lF_Format_c8 K env H = aw PP lF_Format_c5 (seqK PP lF_Format_c7 K) env H := aw_seq lF_Format_c5 lF_Format_c7
def lF_Format_c9 : AC := .seq lF_Format_c0 lF_Format_c8
@[simp] theorem lF_Format_c9_eq : aw PP lF_Format_c9 K env H = aw PP lF_Format_c0 (seqK PP lF_Format_c8 K) env H := aw_seq lF_Format_c0 lF_Format_c8
def lF_Format_ac : AC := lF_Format_c9
@[simp] theorem lF_Format_ac_eq : aw PP lF_Format_ac K env H = aw PP lF_Format_c9 K env H := Eq.trans rfl rfl
def lF_Format_rs : List ARV := [.tmp 2]
abbrev lF_Format_id : Nat := 5
theorem lF_Format_comp : compF PP lF_Format_kl lF_Format_ow 1 Tryd.f5 = some (lF_Format_ac, lF_Format_rs) := by kernel_rfl
theorem lF_Format_enter {args : List AV} {H : AHeap} {post : ARes → AHeap → Prop} (ha : args.length = 1) (h : aw PP lF_Format_ac (retK lF_Format_rs post) (argEnv 0 args) H) : ACalls PP lF_Format_id args H post := .enterF Tryd.func5 PP_mix lF_Format_comp ha h

end Go.Av
