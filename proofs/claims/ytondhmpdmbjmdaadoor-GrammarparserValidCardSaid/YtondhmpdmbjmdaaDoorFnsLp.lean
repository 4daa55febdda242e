/- Functions of the given program, compiled to the own form by program. -/
import Derived.Test.YtondhmpdmbjmdaaDoorFns9
set_option linter.unusedVariables false
set_option linter.unusedSimpArgs false
namespace Go.Av
open Go Go.Proofs
variable {K : AK} {env : Env} {H : AHeap}
/-! emendate.emendatelaw17.GrammarparserValid -/
def lG_Valid_kl : Nat → List Nat
  | 0 => [2]
  | 1 => [9, 10]
  | 2 => [0, 11, 12]
  | 3 => [0, 4, 11, 13, 14, 15, 16, 17, 18]
  | 4 => [5, 19]
  | 5 => [3, 20, 21]
  | 6 => [7, 20, 22, 23, 24, 25, 26, 27, 28]
  | 7 => [3, 6, 8, 29, 30, 31, 32, 33, 34, 35, 36, 37, 38, 39, 40, 41, 42]
  | _ => []
def lG_Valid_ow : Nat → Nat → Bool := fun _ _ => false
def lG_Valid_c0 : AC := .reg [⟨some 2, none, .mov (.c (.bool false))⟩] [2]
@[simp] theorem lG_Valid_c0_eq : aw PP lG_Valid_c0 K env H = awOps PP [⟨some 2, none, .mov (.c (.bool false))⟩] (regK K [2]) (panK K) env H := aw_reg _ _
def lG_Valid_c1 : AC := .reg [⟨some 9, none, .mov (.t 0)⟩, ⟨some 10, none, .lens (.t 9)⟩, ⟨some 11, none, .bin (.gtr) (.t 10) (.c (.int (.i64) 300))⟩] [9, 10]
@[simp] theorem lG_Valid_c1_eq : aw PP lG_Valid_c1 K env H = awOps PP [⟨some 9, none, .mov (.t 0)⟩, ⟨some 10, none, .lens (.t 9)⟩, ⟨some 11, none, .bin (.gtr) (.t 10) (.c (.int (.i64) 300))⟩] (regK K [9, 10]) (panK K) env H := aw_reg _ _
def lG_Valid_c2 : AC := .reg [⟨some 12, none, .call (.c (.fn (.func 23) [] [])) []⟩, ⟨some 2, none, .mov (.t 12)⟩] [0, 11, 12]
@[simp] theorem lG_Valid_c2_eq : aw PP lG_Valid_c2 K env H = awOps PP [⟨some 12, none, .call (.c (.fn (.func 23) [] [])) []⟩, ⟨some 2, none, .mov (.t 12)⟩] (regK K [0, 11, 12]) (panK K) env H := aw_reg _ _
def lG_Valid_c3 : AC := .seq lG_Valid_c2 .ret
@[simp] theorem lG_Valid_c3_eq : aw PP lG_Valid_c3 K env H = aw PP lG_Valid_c2 (seqK PP .ret K) env H := aw_seq lG_Valid_c2 .ret
def lG_Valid_c4 : AC := .cond (.t 11) lG_Valid_c3 .skip
@[simp] theorem lG_Valid_c4_eq : aw PP lG_Valid_c4 K env H = condQ PP (Opd.ev env (.t 11)) lG_Valid_c3 .skip K env H := aw_cond _ lG_Valid_c3 .skip
def lG_Valid_c5 : AC := .seq lG_Valid_c1 lG_Valid_c4
@[simp] theorem lG_Valid_c5_eq : aw PP lG_Valid_c5 K env H = aw PP lG_Valid_c1 (seqK PP lG_Valid_c4 K) env H := aw_seq lG_Valid_c1 lG_Valid_c4
def lG_Valid_c6 : AC := .reg [⟨some 14, none, .mov (.t 0)⟩, ⟨some 15, none, .call (.c (.fn (.func 24) [] [])) [.t 14]⟩, ⟨some 13, none, .mov (.t 15)⟩, ⟨some 16, none, .ext (.t 13) 0⟩, ⟨some 17, none, .ext (.t 13) 1⟩, ⟨some 18, none, .ext (.t 13) 2⟩, ⟨some 3, none, .alloc (.struct [.str [], .nils, .nils]) 25⟩, ⟨none, none, .st 3 (.t 3) (.t 16)⟩, ⟨some 4, none, .mov (.t 17)⟩, ⟨some 5, none, .mov (.t 18)⟩] [0, 4, 11, 13, 14, 15, 16, 17, 18]
@[simp] theorem lG_Valid_c6_eq : aw PP lG_Valid_c6 K env H = awOps PP [⟨some 14, none, .mov (.t 0)⟩, ⟨some 15, none, .call (.c (.fn (.func 24) [] [])) [.t 14]⟩, ⟨some 13, none, .mov (.t 15)⟩, ⟨some 16, none, .ext (.t 13) 0⟩, ⟨some 17, none, .ext (.t 13) 1⟩, ⟨some 18, none, .ext (.t 13) 2⟩, ⟨some 3, none, .alloc (.struct [.str [], .nils, .nils]) 25⟩, ⟨none, none, .st 3 (.t 3) (.t 16)⟩, ⟨some 4, none, .mov (.t 17)⟩, ⟨some 5, none, .mov (.t 18)⟩] (regK K [0, 4, 11, 13, 14, 15, 16, 17, 18]) (panK K) env H := aw_reg _ _
def lG_Valid_c7 : AC := .reg [⟨some 19, none, .mov (.t 5)⟩, ⟨some 20, none, .bin (.neq) (.t 19) (.c (.int (.i64) 0))⟩] [5, 19]
@[simp] theorem lG_Valid_c7_eq : aw PP lG_Valid_c7 K env H = awOps PP [⟨some 19, none, .mov (.t 5)⟩, ⟨some 20, none, .bin (.neq) (.t 19) (.c (.int (.i64) 0))⟩] (regK K [5, 19]) (panK K) env H := aw_reg _ _
def lG_Valid_c8 : AC := .reg [⟨some 21, none, .call (.c (.fn (.func 23) [] [])) []⟩, ⟨some 2, none, .mov (.t 21)⟩] [3, 20, 21]
@[simp] theorem lG_Valid_c8_eq : aw PP lG_Valid_c8 K env H = awOps PP [⟨some 21, none, .call (.c (.fn (.func 23) [] [])) []⟩, ⟨some 2, none, .mov (.t 21)⟩] (regK K [3, 20, 21]) (panK K) env H := aw_reg _ _
def lG_Valid_c9 : AC := .seq lG_Valid_c8 .ret
@[simp] theorem lG_Valid_c9_eq : aw PP lG_Valid_c9 K env H = aw PP lG_Valid_c8 (seqK PP .ret K) env H := aw_seq lG_Valid_c8 .ret
def lG_Valid_c10 : AC := .cond (.t 20) lG_Valid_c9 .skip
@[simp] theorem lG_Valid_c10_eq : aw PP lG_Valid_c10 K env H = condQ PP (Opd.ev env (.t 20)) lG_Valid_c9 .skip K env H := aw_cond _ lG_Valid_c9 .skip
def lG_Valid_c11 : AC := .seq lG_Valid_c7 lG_Valid_c10
@[simp] theorem lG_Valid_c11_eq : aw PP lG_Valid_c11 K env H = aw PP lG_Valid_c7 (seqK PP lG_Valid_c10 K) env H := aw_seq lG_Valid_c7 lG_Valid_c10
def lG_Valid_c12 : AC := .reg [⟨some 23, none, .ld true 3 (.t 3)⟩, ⟨some 24, none, .call (.c (.fn (.func 17) [] [])) [.t 23]⟩, ⟨some 25, none, .call (.c (.fn (.func 24) [] [])) [.t 24]⟩, ⟨some 22, none, .mov (.t 25)⟩, ⟨some 26, none, .ext (.t 22) 0⟩, ⟨some 27, none, .ext (.t 22) 1⟩, ⟨some 28, none, .ext (.t 22) 2⟩, ⟨some 6, none, .alloc (.struct [.str [], .nils, .nils]) 25⟩, ⟨none, none, .st 3 (.t 6) (.t 26)⟩, ⟨some 7, none, .mov (.t 27)⟩, ⟨some 8, none, .mov (.t 28)⟩] [7, 20, 22, 23, 24, 25, 26, 27, 28]
@[simp] theorem lG_Valid_c12_eq : aw PP lG_Valid_c12 K env H = awOps PP [⟨some 23, none, .ld true 3 (.t 3)⟩, ⟨some 24, none, .call (.c (.fn (.func 17) [] [])) [.t 23]⟩, ⟨some 25, none, .call (.c (.fn (.func 24) [] [])) [.t 24]⟩, ⟨some 22, none, .mov (.t 25)⟩, ⟨some 26, none, .ext (.t 22) 0⟩, ⟨some 27, none, .ext (.t 22) 1⟩, ⟨some 28, none, .ext (.t 22) 2⟩, ⟨some 6, none, .alloc (.struct [.str [], .nils, .nils]) 25⟩, ⟨none, none, .st 3 (.t 6) (.t 26)⟩, ⟨some 7, none, .mov (.t 27)⟩, ⟨some 8, none, .mov (.t 28)⟩] (regK K [7, 20, 22, 23, 24, 25, 26, 27, 28]) (panK K) env H := aw_reg _ _
def lG_Valid_c13 : AC := .reg [⟨some 29, none, .call (.c (.fn (.func 23) [] [])) []⟩, ⟨some 30, none, .mov (.t 29)⟩, ⟨some 31, some (30, true), .ld true 3 (.t 3)⟩, ⟨some 32, some (30, true), .call (.c (.fn (.func 13) [] [])) [.t 31]⟩, ⟨some 33, none, .pick (.t 30) (.t 32) (.c (.bool false))⟩, ⟨some 34, none, .mov (.t 33)⟩, ⟨some 35, some (34, true), .mov (.t 8)⟩, ⟨some 36, some (34, true), .bin (.eql) (.t 35) (.c (.int (.i64) 0))⟩, ⟨some 37, none, .pick (.t 34) (.t 36) (.c (.bool false))⟩, ⟨some 38, none, .mov (.t 37)⟩, ⟨some 39, some (38, true), .ld true 3 (.t 3)⟩, ⟨some 40, some (38, true), .ld true 3 (.t 6)⟩, ⟨some 41, some (38, true), .call (.c (.fn (.func 15) [] [])) [.t 39, .t 40]⟩, ⟨some 42, none, .pick (.t 38) (.t 41) (.c (.bool false))⟩, ⟨some 2, none, .mov (.t 42)⟩] [3, 6, 8, 29, 30, 31, 32, 33, 34, 35, 36, 37, 38, 39, 40, 41, 42]
@[simp] theorem lG_Valid_c13_eq : aw PP lG_Valid_c13 K env H = awOps PP [⟨some 29, none, .call (.c (.fn (.func 23) [] [])) []⟩, ⟨some 30, none, .mov (.t 29)⟩, ⟨some 31, some (30, true), .ld true 3 (.t 3)⟩, ⟨some 32, some (30, true), .call (.c (.fn (.func 13) [] [])) [.t 31]⟩, ⟨some 33, none, .pick (.t 30) (.t 32) (.c (.bool false))⟩, ⟨some 34, none, .mov (.t 33)⟩, ⟨some 35, some (34, true), .mov (.t 8)⟩, ⟨some 36, some (34, true), .bin (.eql) (.t 35) (.c (.int (.i64) 0))⟩, ⟨some 37, none, .pick (.t 34) (.t 36) (.c (.bool false))⟩, ⟨some 38, none, .mov (.t 37)⟩, ⟨some 39, some (38, true), .ld true 3 (.t 3)⟩, ⟨some 40, some (38, true), .ld true 3 (.t 6)⟩, ⟨some 41, some (38, true), .call (.c (.fn (.func 15) [] [])) [.t 39, .t 40]⟩, ⟨some 42, none, .pick (.t 38) (.t 41) (.c (.bool false))⟩, ⟨some 2, none, .mov (.t 42)⟩] (regK K [3, 6, 8, 29, 30, 31, 32, 33, 34, 35, 36, 37, 38, 39, 40, 41, 42]) (panK K) env H := aw_reg _ _
def lG_Valid_c14 : AC := .seq lG_Valid_c13 .ret
@[simp] theorem lG_Valid_c14_eq : aw PP lG_Valid_c14 K env H = aw PP lG_Valid_c13 (seqK PP .ret K) env H := aw_seq lG_Valid_c13 .ret
def lG_Valid_c15 : AC := .seq lG_Valid_c12 lG_Valid_c14
@[simp] theorem lG_Valid_c15_eq : aw PP lG_Valid_c15 K env H = aw PP lG_Valid_c12 (seqK PP lG_Valid_c14 K) env H := aw_seq lG_Valid_c12 lG_Valid_c14
def lG_Valid_c16 : AC := .seq lG_Valid_c11 lG_Valid_c15
@[simp] theorem lG_Valid_c16_eq : aw PP lG_Valid_c16 K env H = aw PP lG_Valid_c11 (seqK PP lG_Valid_c15 K) env H := aw_seq lG_Valid_c11 lG_Valid_c15
def lG_Valid_c17 : AC := .seq lG_Valid_c6 lG_Valid_c16
@[simp] theorem lG_Valid_c17_eq : aw PP lG_Valid_c17 K env H = aw PP lG_Valid_c6 (seqK PP lG_Valid_c16 K) env H := aw_seq lG_Valid_c6 lG_Valid_c16
def lG_Valid_c18 : AC := .seq lG_Valid_c5 lG_Valid_c17
@[simp] theorem lG_Valid_c18_eq : aw PP lG_Valid_c18 K env H = aw PP lG_Valid_c5 (seqK PP lG_Valid_c17 K) env H := aw_seq lG_Valid_c5 lG_Valid_c17
def lG_Valid_c19 : AC := .seq lG_Valid_c0 lG_Valid_c18
@[simp] theorem lG_Valid_c19_eq : aw PP lG_Valid_c19 K env H = aw PP lG_Valid_c0 (seqK PP lG_Valid_c18 K) env H := aw_seq lG_Valid_c0 lG_Valid_c18
def lG_Valid_ac : AC := lG_Valid_c19
@[simp] theorem lG_Valid_ac_eq : aw PP lG_Valid_ac K env H = aw PP lG_Valid_c19 K env H := Eq.trans rfl rfl
def lG_Valid_rs : List ARV := [.tmp 2]
abbrev lG_Valid_id : Nat := 10
theorem lG_Valid_comp : compF PP lG_Valid_kl lG_Valid_ow 1 Tryd.f10 = some (lG_Valid_ac, lG_Valid_rs) := by kernel_rfl
theorem lG_Valid_enter {args : List AV} {H : AHeap} {post : ARes → AHeap → Prop} (ha : args.length = 1) (h : aw PP lG_Valid_ac (retK lG_Valid_rs post) (argEnv 0 args) H) : ACalls PP lG_Valid_id args H post := .enterF Tryd.func10 PP_mix lG_Valid_comp ha h

end Go.Av
