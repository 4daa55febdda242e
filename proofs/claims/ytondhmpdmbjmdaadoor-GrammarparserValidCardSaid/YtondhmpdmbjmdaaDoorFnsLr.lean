/- Functions of the given program, compiled to the own form by program. -/
import Derived.Test.YtondhmpdmbjmdaaDoorFns9
set_option linter.unusedVariables false
set_option linter.unusedSimpArgs false
namespace Go.Av
open Go Go.Proofs
variable {K : AK} {env : Env} {H : AHeap}
/-! emendate.emendatelaw17.GrammarparserRoundTrip -/
def lG_RoundTrip_kl : Nat → List Nat
  | 0 => [0, 2]
  | 1 => [6, 7, 8, 9, 10, 11, 12]
  | 2 => [1, 13, 14]
  | 3 => [13, 15, 16, 17, 18, 19, 20, 21]
  | 4 => [1, 3, 4, 5, 22, 23, 24, 25, 26, 27, 28, 29, 30, 31, 32, 33, 34, 35]
  | _ => []
def lG_RoundTrip_ow : Nat → Nat → Bool := fun _ _ => false
def lG_RoundTrip_c0 : AC := .reg [⟨some 1, none, .box (.t 0) 3 25⟩, ⟨some 2, none, .mov (.c (.bool false))⟩] [0, 2]
@[simp] theorem lG_RoundTrip_c0_eq : aw PP lG_RoundTrip_c0 K env H = awOps PP [⟨some 1, none, .box (.t 0) 3 25⟩, ⟨some 2, none, .mov (.c (.bool false))⟩] (regK K [0, 2]) (panK K) env H := aw_reg _ _
def lG_RoundTrip_c1 : AC := .reg [⟨some 6, none, .ld true 3 (.t 1)⟩, ⟨some 7, none, .call (.c (.fn (.func 22) [] [])) [.t 6, .c (.int (.i64) 100)]⟩, ⟨some 8, none, .bin (.gtr) (.t 7) (.c (.int (.i64) 100))⟩, ⟨some 9, none, .mov (.t 8)⟩, ⟨some 10, some (9, false), .ld true 3 (.t 1)⟩, ⟨some 11, some (9, false), .call (.c (.fn (.func 14) [] [])) [.t 10]⟩, ⟨some 12, some (9, false), .not (.t 11)⟩, ⟨some 13, none, .pick (.t 9) (.c (.bool true)) (.t 12)⟩] [6, 7, 8, 9, 10, 11, 12]
@[simp] theorem lG_RoundTrip_c1_eq : aw PP lG_RoundTrip_c1 K env H = awOps PP [⟨some 6, none, .ld true 3 (.t 1)⟩, ⟨some 7, none, .call (.c (.fn (.func 22) [] [])) [.t 6, .c (.int (.i64) 100)]⟩, ⟨some 8, none, .bin (.gtr) (.t 7) (.c (.int (.i64) 100))⟩, ⟨some 9, none, .mov (.t 8)⟩, ⟨some 10, some (9, false), .ld true 3 (.t 1)⟩, ⟨some 11, some (9, false), .call (.c (.fn (.func 14) [] [])) [.t 10]⟩, ⟨some 12, some (9, false), .not (.t 11)⟩, ⟨some 13, none, .pick (.t 9) (.c (.bool true)) (.t 12)⟩] (regK K [6, 7, 8, 9, 10, 11, 12]) (panK K) env H := aw_reg _ _
def lG_RoundTrip_c2 : AC := .reg [⟨some 14, none, .call (.c (.fn (.func 23) [] [])) []⟩, ⟨some 2, none, .mov (.t 14)⟩] [1, 13, 14]
@[simp] theorem lG_RoundTrip_c2_eq : aw PP lG_RoundTrip_c2 K env H = awOps PP [⟨some 14, none, .call (.c (.fn (.func 23) [] [])) []⟩, ⟨some 2, none, .mov (.t 14)⟩] (regK K [1, 13, 14]) (panK K) env H := aw_reg _ _
def lG_RoundTrip_c3 : AC := .seq lG_RoundTrip_c2 .ret
@[simp] theorem lG_RoundTrip_c3_eq : aw PP lG_RoundTrip_c3 K env H = aw PP lG_RoundTrip_c2 (seqK PP .ret K) env H := aw_seq lG_RoundTrip_c2 .ret
def lG_RoundTrip_c4 : AC := .cond (.t 13) lG_RoundTrip_c3 .skip
@[simp] theorem lG_RoundTrip_c4_eq : aw PP lG_RoundTrip_c4 K env H = condQ PP (Opd.ev env (.t 13)) lG_RoundTrip_c3 .skip K env H := aw_cond _ lG_RoundTrip_c3 .skip
def lG_RoundTrip_c5 : AC := .seq lG_RoundTrip_c1 lG_RoundTrip_c4
@[simp] theorem lG_RoundTrip_c5_eq : aw PP lG_RoundTrip_c5 K env H = aw PP lG_RoundTrip_c1 (seqK PP lG_RoundTrip_c4 K) env H := aw_seq lG_RoundTrip_c1 lG_RoundTrip_c4
def lG_RoundTrip_c6 : AC := .reg [⟨some 16, none, .ld true 3 (.t 1)⟩, ⟨some 17, none, .call (.c (.fn (.func 17) [] [])) [.t 16]⟩, ⟨some 18, none, .call (.c (.fn (.func 24) [] [])) [.t 17]⟩, ⟨some 15, none, .mov (.t 18)⟩, ⟨some 19, none, .ext (.t 15) 0⟩, ⟨some 20, none, .ext (.t 15) 1⟩, ⟨some 21, none, .ext (.t 15) 2⟩, ⟨some 3, none, .alloc (.struct [.str [], .nils, .nils]) 25⟩, ⟨none, none, .st 3 (.t 3) (.t 19)⟩, ⟨some 4, none, .mov (.t 20)⟩, ⟨some 5, none, .mov (.t 21)⟩] [13, 15, 16, 17, 18, 19, 20, 21]
@[simp] theorem lG_RoundTrip_c6_eq : aw PP lG_RoundTrip_c6 K env H = awOps PP [⟨some 16, none, .ld true 3 (.t 1)⟩, ⟨some 17, none, .call (.c (.fn (.func 17) [] [])) [.t 16]⟩, ⟨some 18, none, .call (.c (.fn (.func 24) [] [])) [.t 17]⟩, ⟨some 15, none, .mov (.t 18)⟩, ⟨some 19, none, .ext (.t 15) 0⟩, ⟨some 20, none, .ext (.t 15) 1⟩, ⟨some 21, none, .ext (.t 15) 2⟩, ⟨some 3, none, .alloc (.struct [.str [], .nils, .nils]) 25⟩, ⟨none, none, .st 3 (.t 3) (.t 19)⟩, ⟨some 4, none, .mov (.t 20)⟩, ⟨some 5, none, .mov (.t 21)⟩] (regK K [13, 15, 16, 17, 18, 19, 20, 21]) (panK K) env H := aw_reg _ _
def lG_RoundTrip_c7 : AC := .reg [⟨some 22, none, .call (.c (.fn (.func 23) [] [])) []⟩, ⟨some 23, none, .mov (.t 22)⟩, ⟨some 24, some (23, true), .mov (.t 5)⟩, ⟨some 25, some (23, true), .bin (.eql) (.t 24) (.c (.int (.i64) 0))⟩, ⟨some 26, none, .pick (.t 23) (.t 25) (.c (.bool false))⟩, ⟨some 27, none, .mov (.t 26)⟩, ⟨some 28, some (27, true), .mov (.t 4)⟩, ⟨some 29, some (27, true), .bin (.eql) (.t 28) (.c (.int (.i64) 0))⟩, ⟨some 30, none, .pick (.t 27) (.t 29) (.c (.bool false))⟩, ⟨some 31, none, .mov (.t 30)⟩, ⟨some 32, some (31, true), .ld true 3 (.t 1)⟩, ⟨some 33, some (31, true), .ld true 3 (.t 3)⟩, ⟨some 34, some (31, true), .call (.c (.fn (.func 15) [] [])) [.t 32, .t 33]⟩, ⟨some 35, none, .pick (.t 31) (.t 34) (.c (.bool false))⟩, ⟨some 2, none, .mov (.t 35)⟩] [1, 3, 4, 5, 22, 23, 24, 25, 26, 27, 28, 29, 30, 31, 32, 33, 34, 35]
@[simp] theorem lG_RoundTrip_c7_eq : aw PP lG_RoundTrip_c7 K env H = awOps PP [⟨some 22, none, .call (.c (.fn (.func 23) [] [])) []⟩, ⟨some 23, none, .mov (.t 22)⟩, ⟨some 24, some (23, true), .mov (.t 5)⟩, ⟨some 25, some (23, true), .bin (.eql) (.t 24) (.c (.int (.i64) 0))⟩, ⟨some 26, none, .pick (.t 23) (.t 25) (.c (.bool false))⟩, ⟨some 27, none, .mov (.t 26)⟩, ⟨some 28, some (27, true), .mov (.t 4)⟩, ⟨some 29, some (27, true), .bin (.eql) (.t 28) (.c (.int (.i64) 0))⟩, ⟨some 30, none, .pick (.t 27) (.t 29) (.c (.bool false))⟩, ⟨some 31, none, .mov (.t 30)⟩, ⟨some 32, some (31, true), .ld true 3 (.t 1)⟩, ⟨some 33, some (31, true), .ld true 3 (.t 3)⟩, ⟨some 34, some (31, true), .call (.c (.fn (.func 15) [] [])) [.t 32, .t 33]⟩, ⟨some 35, none, .pick (.t 31) (.t 34) (.c (.bool false))⟩, ⟨some 2, none, .mov (.t 35)⟩] (regK K [1, 3, 4, 5, 22, 23, 24, 25, 26, 27, 28, 29, 30, 31, 32, 33, 34, 35]) (panK K) env H := aw_reg _ _
def lG_RoundTrip_c8 : AC := .seq lG_RoundTrip_c7 .ret
@[simp] theorem lG_RoundTrip_c8_eq : aw PP lG_RoundTrip_c8 K env H = aw PP lG_RoundTrip_c7 (seqK PP .ret K) env H := aw_seq lG_RoundTrip_c7 .ret
def lG_RoundTrip_c9 : AC := .seq lG_RoundTrip_c6 lG_RoundTrip_c8
@[simp] theorem lG_RoundTrip_c9_eq : aw PP lG_RoundTrip_c9 K env H = aw PP lG_RoundTrip_c6 (seqK PP lG_RoundTrip_c8 K) env H := aw_seq lG_RoundTrip_c6 lG_RoundTrip_c8
def lG_RoundTrip_c10 : AC := .seq lG_RoundTrip_c5 lG_RoundTrip_c9
@[simp] theorem lG_RoundTrip_c10_eq : aw PP lG_RoundTrip_c10 K env H = aw PP lG_RoundTrip_c5 (seqK PP lG_RoundTrip_c9 K) env H := aw_seq lG_RoundTrip_c5 lG_RoundTrip_c9
def lG_RoundTrip_c11 : AC := .seq lG_RoundTrip_c0 lG_RoundTrip_c10
@[simp] theorem lG_RoundTrip_c11_eq : aw PP lG_RoundTrip_c11 K env H = aw PP lG_RoundTrip_c0 (seqK PP lG_RoundTrip_c10 K) env H := aw_seq lG_RoundTrip_c0 lG_RoundTrip_c10
def lG_RoundTrip_ac : AC := lG_RoundTrip_c11
@[simp] theorem lG_RoundTrip_ac_eq : aw PP lG_RoundTrip_ac K env H = aw PP lG_RoundTrip_c11 K env H := Eq.trans rfl rfl
def lG_RoundTrip_rs : List ARV := [.tmp 2]
abbrev lG_RoundTrip_id : Nat := 9
theorem lG_RoundTrip_comp : compF PP lG_RoundTrip_kl lG_RoundTrip_ow 1 Tryd.f9 = some (lG_RoundTrip_ac, lG_RoundTrip_rs) := by kernel_rfl
theorem lG_RoundTrip_enter {args : List AV} {H : AHeap} {post : ARes → AHeap → Prop} (ha : args.length = 1) (h : aw PP lG_RoundTrip_ac (retK lG_RoundTrip_rs post) (argEnv 0 args) H) : ACalls PP lG_RoundTrip_id args H post := .enterF Tryd.func9 PP_mix lG_RoundTrip_comp ha h

end Go.Av
