/- Functions of the given program, compiled to the own form by program. -/
import Derived.Test.YtpdbcfnmhicnbaaDoorProg
import Derived.KernelRfl
import Derived.Test.YtpdbcfnmhicnbaaDoorAvF
import Derived.Test.YtpdbcfnmhicnbaaDoorFns1
set_option linter.unusedVariables false
set_option linter.unusedSimpArgs false
namespace Go.Av
open Go Go.Proofs
variable {K : AK} {env : Env} {H : AHeap}
/-! emendate.grammar.Symbol -/
def grammar_Symbol_kl : Nat → List Nat
  | 0 => [0, 4, 5]
  | 1 => [8, 9, 10, 11]
  | 2 => [12]
  | 3 => [1, 2, 6, 13, 14]
  | 4 => [1, 2, 6, 13, 15, 16, 17, 18]
  | 5 => [19]
  | 6 => [7, 20, 21, 22]
  | 7 => [7, 20]
  | _ => []
def grammar_Symbol_ow : Nat → Nat → Bool := fun _ _ => false
def grammar_Symbol_c0 : AC := .reg [⟨some 2, none, .box (.t 0) 4 25⟩, ⟨some 4, none, .mov (.c (.int (.i64) 0))⟩, ⟨some 5, none, .mov (.c (.bool false))⟩] [0, 4, 5]
@[simp] theorem grammar_Symbol_c0_eq : aw PP grammar_Symbol_c0 K env H = awOps PP [⟨some 2, none, .box (.t 0) 4 25⟩, ⟨some 4, none, .mov (.c (.int (.i64) 0))⟩, ⟨some 5, none, .mov (.c (.bool false))⟩] (regK K [0, 4, 5]) (panK K) env H := aw_reg _ _
def grammar_Symbol_c1 : AC := .reg [⟨some 8, none, .fa 0 0 (.t 2)⟩, ⟨some 9, none, .ld false 1 (.t 8)⟩, ⟨some 10, none, .mov (.t 1)⟩, ⟨some 11, none, .call (.c (.fn (.func 38) [] [])) [.t 9, .t 10]⟩, ⟨some 6, none, .mov (.t 11)⟩] [8, 9, 10, 11]
@[simp] theorem grammar_Symbol_c1_eq : aw PP grammar_Symbol_c1 K env H = awOps PP [⟨some 8, none, .fa 0 0 (.t 2)⟩, ⟨some 9, none, .ld false 1 (.t 8)⟩, ⟨some 10, none, .mov (.t 1)⟩, ⟨some 11, none, .call (.c (.fn (.func 38) [] [])) [.t 9, .t 10]⟩, ⟨some 6, none, .mov (.t 11)⟩] (regK K [8, 9, 10, 11]) (panK K) env H := aw_reg _ _
def grammar_Symbol_c2 : AC := .reg [⟨some 12, none, .mov (.t 6)⟩, ⟨some 13, none, .bin (.geq) (.t 12) (.c (.int (.i64) 0))⟩] [12]
@[simp] theorem grammar_Symbol_c2_eq : aw PP grammar_Symbol_c2 K env H = awOps PP [⟨some 12, none, .mov (.t 6)⟩, ⟨some 13, none, .bin (.geq) (.t 12) (.c (.int (.i64) 0))⟩] (regK K [12]) (panK K) env H := aw_reg _ _
def grammar_Symbol_c3 : AC := .reg [⟨some 14, none, .mov (.t 6)⟩, ⟨some 4, none, .mov (.t 14)⟩, ⟨some 5, none, .mov (.c (.bool true))⟩] [1, 2, 6, 13, 14]
@[simp] theorem grammar_Symbol_c3_eq : aw PP grammar_Symbol_c3 K env H = awOps PP [⟨some 14, none, .mov (.t 6)⟩, ⟨some 4, none, .mov (.t 14)⟩, ⟨some 5, none, .mov (.c (.bool true))⟩] (regK K [1, 2, 6, 13, 14]) (panK K) env H := aw_reg _ _
def grammar_Symbol_c4 : AC := .seq grammar_Symbol_c3 .ret
@[simp] theorem grammar_Symbol_c4_eq : aw PP grammar_Symbol_c4 K env H = aw PP grammar_Symbol_c3 (seqK PP .ret K) env H := aw_seq grammar_Symbol_c3 .ret
def grammar_Symbol_c5 : AC := .cond (.t 13) grammar_Symbol_c4 .skip
@[simp] theorem grammar_Symbol_c5_eq : aw PP grammar_Symbol_c5 K env H = condQ PP (Opd.ev env (.t 13)) grammar_Symbol_c4 .skip K env H := aw_cond _ grammar_Symbol_c4 .skip
def grammar_Symbol_c6 : AC := .seq grammar_Symbol_c2 grammar_Symbol_c5
@[simp] theorem grammar_Symbol_c6_eq : aw PP grammar_Symbol_c6 K env H = aw PP grammar_Symbol_c2 (seqK PP grammar_Symbol_c5 K) env H := aw_seq grammar_Symbol_c2 grammar_Symbol_c5
def grammar_Symbol_c7 : AC := .seq grammar_Symbol_c1 grammar_Symbol_c6
@[simp] theorem grammar_Symbol_c7_eq : aw PP grammar_Symbol_c7 K env H = aw PP grammar_Symbol_c1 (seqK PP grammar_Symbol_c6 K) env H := aw_seq grammar_Symbol_c1 grammar_Symbol_c6
def grammar_Symbol_c8 : AC := .reg [⟨some 15, none, .fa 1 1 (.t 2)⟩, ⟨some 16, none, .ld false 1 (.t 15)⟩, ⟨some 17, none, .mov (.t 1)⟩, ⟨some 18, none, .call (.c (.fn (.func 38) [] [])) [.t 16, .t 17]⟩, ⟨some 7, none, .mov (.t 18)⟩] [1, 2, 6, 13, 15, 16, 17, 18]
@[simp] theorem grammar_Symbol_c8_eq : aw PP grammar_Symbol_c8 K env H = awOps PP [⟨some 15, none, .fa 1 1 (.t 2)⟩, ⟨some 16, none, .ld false 1 (.t 15)⟩, ⟨some 17, none, .mov (.t 1)⟩, ⟨some 18, none, .call (.c (.fn (.func 38) [] [])) [.t 16, .t 17]⟩, ⟨some 7, none, .mov (.t 18)⟩] (regK K [1, 2, 6, 13, 15, 16, 17, 18]) (panK K) env H := aw_reg _ _
def grammar_Symbol_c9 : AC := .reg [⟨some 19, none, .mov (.t 7)⟩, ⟨some 20, none, .bin (.geq) (.t 19) (.c (.int (.i64) 0))⟩] [19]
@[simp] theorem grammar_Symbol_c9_eq : aw PP grammar_Symbol_c9 K env H = awOps PP [⟨some 19, none, .mov (.t 7)⟩, ⟨some 20, none, .bin (.geq) (.t 19) (.c (.int (.i64) 0))⟩] (regK K [19]) (panK K) env H := aw_reg _ _
def grammar_Symbol_c10 : AC := .reg [⟨some 21, none, .mov (.t 7)⟩, ⟨some 22, none, .bin (.sub) (.c (.int (.i64) (-1))) (.t 21)⟩, ⟨some 4, none, .mov (.t 22)⟩, ⟨some 5, none, .mov (.c (.bool true))⟩] [7, 20, 21, 22]
@[simp] theorem grammar_Symbol_c10_eq : aw PP grammar_Symbol_c10 K env H = awOps PP [⟨some 21, none, .mov (.t 7)⟩, ⟨some 22, none, .bin (.sub) (.c (.int (.i64) (-1))) (.t 21)⟩, ⟨some 4, none, .mov (.t 22)⟩, ⟨some 5, none, .mov (.c (.bool true))⟩] (regK K [7, 20, 21, 22]) (panK K) env H := aw_reg _ _
def grammar_Symbol_c11 : AC := .seq grammar_Symbol_c10 .ret
@[simp] theorem grammar_Symbol_c11_eq : aw PP grammar_Symbol_c11 K env H = aw PP grammar_Symbol_c10 (seqK PP .ret K) env H := aw_seq grammar_Symbol_c10 .ret
def grammar_Symbol_c12 : AC := .cond (.t 20) grammar_Symbol_c11 .skip
@[simp] theorem grammar_Symbol_c12_eq : aw PP grammar_Symbol_c12 K env H = condQ PP (Opd.ev env (.t 20)) grammar_Symbol_c11 .skip K env H := aw_cond _ grammar_Symbol_c11 .skip
def grammar_Symbol_c13 : AC := .seq grammar_Symbol_c9 grammar_Symbol_c12
@[simp] theorem grammar_Symbol_c13_eq : aw PP grammar_Symbol_c13 K env H = aw PP grammar_Symbol_c9 (seqK PP grammar_Symbol_c12 K) env H := aw_seq grammar_Symbol_c9 grammar_Symbol_c12
def grammar_Symbol_c14 : AC := .seq grammar_Symbol_c8 grammar_Symbol_c13
@[simp] theorem grammar_Symbol_c14_eq : aw PP grammar_Symbol_c14 K env H = aw PP grammar_Symbol_c8 (seqK PP grammar_Symbol_c13 K) env H := aw_seq grammar_Symbol_c8 grammar_Symbol_c13
def grammar_Symbol_c15 : AC := .reg [⟨some 4, none, .mov (.c (.int (.i64) 0))⟩, ⟨some 5, none, .mov (.c (.bool false))⟩] [7, 20]
@[simp] theorem grammar_Symbol_c15_eq : aw PP grammar_Symbol_c15 K env H = awOps PP [⟨some 4, none, .mov (.c (.int (.i64) 0))⟩, ⟨some 5, none, .mov (.c (.bool false))⟩] (regK K [7, 20]) (panK K) env H := aw_reg _ _
def grammar_Symbol_c16 : AC := .seq grammar_Symbol_c15 .ret
@[simp] theorem grammar_Symbol_c16_eq : aw PP grammar_Symbol_c16 K env H = aw PP grammar_Symbol_c15 (seqK PP .ret K) env H := aw_seq grammar_Symbol_c15 .ret
def grammar_Symbol_c17 : AC := .seq grammar_Symbol_c14 grammar_Symbol_c16
@[simp] theorem grammar_Symbol_c17_eq : aw PP grammar_Symbol_c17 K env H = aw PP grammar_Symbol_c14 (seqK PP grammar_Symbol_c16 K) env H := aw_seq grammar_Symbol_c14 grammar_Symbol_c16
def grammar_Symbol_c18 : AC := .seq grammar_Symbol_c7 grammar_Symbol_c17
@[simp] theorem grammar_Symbol_c18_eq : aw PP grammar_Symbol_c18 K env H = aw PP grammar_Symbol_c7 (seqK PP grammar_Symbol_c17 K) env H := aw_seq grammar_Symbol_c7 grammar_Symbol_c17
def grammar_Symbol_c19 : AC := .seq grammar_Symbol_c0 grammar_Symbol_c18
@[simp] theorem grammar_Symbol_c19_eq : aw PP grammar_Symbol_c19 K env H = aw PP grammar_Symbol_c0 (seqK PP grammar_Symbol_c18 K) env H := aw_seq grammar_Symbol_c0 grammar_Symbol_c18
def grammar_Symbol_ac : AC := grammar_Symbol_c19
@[simp] theorem grammar_Symbol_ac_eq : aw PP grammar_Symbol_ac K env H = aw PP grammar_Symbol_c19 K env H := Eq.trans rfl rfl
def grammar_Symbol_rs : List ARV := [.tmp 4, .tmp 5]
abbrev grammar_Symbol_id : Nat := 18
theorem grammar_Symbol_comp : compF PP grammar_Symbol_kl grammar_Symbol_ow 2 Tryd.f18 = some (grammar_Symbol_ac, grammar_Symbol_rs) := by kernel_rfl
theorem grammar_Symbol_enter {args : List AV} {H : AHeap} {post : ARes → AHeap → Prop} (ha : args.length = 2) (h : aw PP grammar_Symbol_ac (retK grammar_Symbol_rs post) (argEnv 0 args) H) : ACalls PP grammar_Symbol_id args H post := .enterF Tryd.func18 PP_mix grammar_Symbol_comp ha h

/-! emendate.emendateref18.Symbol -/
def ref18_Symbol_kl : Nat → List Nat
  | 0 => [0, 4, 5]
  | 2 => [8, 9, 10, 11]
  | 3 => [13, 14, 21]
  | 4 => [12, 15, 16, 17, 18, 19, 20]
  | 5 => [1, 2, 6, 21, 22]
  | 6 => [6, 12]
  | 7 => [23, 24, 25, 26]
  | 8 => [28, 29, 36]
  | 9 => [27, 30, 31, 32, 33, 34, 35]
  | 10 => [1, 2, 7, 36, 37, 38]
  | 11 => [1, 2, 7, 27]
  | _ => []
def ref18_Symbol_ow : Nat → Nat → Bool := fun _ _ => false
def ref18_Symbol_c0 : AC := .reg [⟨some 2, none, .box (.t 0) 4 25⟩, ⟨some 4, none, .mov (.c (.int (.i64) 0))⟩, ⟨some 5, none, .mov (.c (.bool false))⟩] [0, 4, 5]
@[simp] theorem ref18_Symbol_c0_eq : aw PP ref18_Symbol_c0 K env H = awOps PP [⟨some 2, none, .box (.t 0) 4 25⟩, ⟨some 4, none, .mov (.c (.int (.i64) 0))⟩, ⟨some 5, none, .mov (.c (.bool false))⟩] (regK K [0, 4, 5]) (panK K) env H := aw_reg _ _
def ref18_Symbol_c1 : AC := .reg [⟨some 6, none, .mov (.c (.int (.i64) 0))⟩] []
@[simp] theorem ref18_Symbol_c1_eq : aw PP ref18_Symbol_c1 K env H = awOps PP [⟨some 6, none, .mov (.c (.int (.i64) 0))⟩] (regK K []) (panK K) env H := aw_reg _ _
def ref18_Symbol_c2 : AC := .reg [⟨some 8, none, .mov (.t 6)⟩, ⟨some 9, none, .fa 0 0 (.t 2)⟩, ⟨some 10, none, .ld false 1 (.t 9)⟩, ⟨some 11, none, .lenl (.t 10)⟩, ⟨some 12, none, .bin (.lss) (.t 8) (.t 11)⟩] [8, 9, 10, 11]
@[simp] theorem ref18_Symbol_c2_eq : aw PP ref18_Symbol_c2 K env H = awOps PP [⟨some 8, none, .mov (.t 6)⟩, ⟨some 9, none, .fa 0 0 (.t 2)⟩, ⟨some 10, none, .ld false 1 (.t 9)⟩, ⟨some 11, none, .lenl (.t 10)⟩, ⟨some 12, none, .bin (.lss) (.t 8) (.t 11)⟩] (regK K [8, 9, 10, 11]) (panK K) env H := aw_reg _ _
def ref18_Symbol_c3 : AC := .cond (.t 12) .skip (.exit 0)
@[simp] theorem ref18_Symbol_c3_eq : aw PP ref18_Symbol_c3 K env H = condQ PP (Opd.ev env (.t 12)) .skip (.exit 0) K env H := aw_cond _ .skip (.exit 0)
def ref18_Symbol_c4 : AC := .seq ref18_Symbol_c2 ref18_Symbol_c3
@[simp] theorem ref18_Symbol_c4_eq : aw PP ref18_Symbol_c4 K env H = aw PP ref18_Symbol_c2 (seqK PP ref18_Symbol_c3 K) env H := aw_seq ref18_Symbol_c2 ref18_Symbol_c3
def ref18_Symbol_c5 : AC := .reg [⟨some 15, none, .fa 0 0 (.t 2)⟩, ⟨some 16, none, .ld false 1 (.t 15)⟩, ⟨some 17, none, .mov (.t 6)⟩, ⟨some 18, none, .ixa 1 (.t 16) (.t 17)⟩, ⟨some 19, none, .ld false 1 (.t 18)⟩, ⟨some 20, none, .mov (.t 1)⟩, ⟨some 21, none, .bin (.eql) (.t 19) (.t 20)⟩] [12, 15, 16, 17, 18, 19, 20]
@[simp] theorem ref18_Symbol_c5_eq : aw PP ref18_Symbol_c5 K env H = awOps PP [⟨some 15, none, .fa 0 0 (.t 2)⟩, ⟨some 16, none, .ld false 1 (.t 15)⟩, ⟨some 17, none, .mov (.t 6)⟩, ⟨some 18, none, .ixa 1 (.t 16) (.t 17)⟩, ⟨some 19, none, .ld false 1 (.t 18)⟩, ⟨some 20, none, .mov (.t 1)⟩, ⟨some 21, none, .bin (.eql) (.t 19) (.t 20)⟩] (regK K [12, 15, 16, 17, 18, 19, 20]) (panK K) env H := aw_reg _ _
def ref18_Symbol_c6 : AC := .reg [⟨some 22, none, .mov (.t 6)⟩, ⟨some 4, none, .mov (.t 22)⟩, ⟨some 5, none, .mov (.c (.bool true))⟩] [1, 2, 6, 21, 22]
@[simp] theorem ref18_Symbol_c6_eq : aw PP ref18_Symbol_c6 K env H = awOps PP [⟨some 22, none, .mov (.t 6)⟩, ⟨some 4, none, .mov (.t 22)⟩, ⟨some 5, none, .mov (.c (.bool true))⟩] (regK K [1, 2, 6, 21, 22]) (panK K) env H := aw_reg _ _
def ref18_Symbol_c7 : AC := .seq ref18_Symbol_c6 .ret
@[simp] theorem ref18_Symbol_c7_eq : aw PP ref18_Symbol_c7 K env H = aw PP ref18_Symbol_c6 (seqK PP .ret K) env H := aw_seq ref18_Symbol_c6 .ret
def ref18_Symbol_c8 : AC := .cond (.t 21) ref18_Symbol_c7 .skip
@[simp] theorem ref18_Symbol_c8_eq : aw PP ref18_Symbol_c8 K env H = condQ PP (Opd.ev env (.t 21)) ref18_Symbol_c7 .skip K env H := aw_cond _ ref18_Symbol_c7 .skip
def ref18_Symbol_c9 : AC := .seq ref18_Symbol_c5 ref18_Symbol_c8
@[simp] theorem ref18_Symbol_c9_eq : aw PP ref18_Symbol_c9 K env H = aw PP ref18_Symbol_c5 (seqK PP ref18_Symbol_c8 K) env H := aw_seq ref18_Symbol_c5 ref18_Symbol_c8
def ref18_Symbol_c10 : AC := .block 1 ref18_Symbol_c9
@[simp] theorem ref18_Symbol_c10_eq : aw PP ref18_Symbol_c10 K env H = aw PP ref18_Symbol_c9 (blockK 1 K) env H := aw_block _ ref18_Symbol_c9
def ref18_Symbol_c11 : AC := .reg [⟨some 13, none, .mov (.t 6)⟩, ⟨some 14, none, .bin (.add) (.t 13) (.c (.int (.i64) 1))⟩, ⟨some 6, none, .mov (.t 14)⟩] [13, 14, 21]
@[simp] theorem ref18_Symbol_c11_eq : aw PP ref18_Symbol_c11 K env H = awOps PP [⟨some 13, none, .mov (.t 6)⟩, ⟨some 14, none, .bin (.add) (.t 13) (.c (.int (.i64) 1))⟩, ⟨some 6, none, .mov (.t 14)⟩] (regK K [13, 14, 21]) (panK K) env H := aw_reg _ _
def ref18_Symbol_c12 : AC := .seq ref18_Symbol_c10 ref18_Symbol_c11
@[simp] theorem ref18_Symbol_c12_eq : aw PP ref18_Symbol_c12 K env H = aw PP ref18_Symbol_c10 (seqK PP ref18_Symbol_c11 K) env H := aw_seq ref18_Symbol_c10 ref18_Symbol_c11
def ref18_Symbol_c13 : AC := .seq ref18_Symbol_c4 ref18_Symbol_c12
@[simp] theorem ref18_Symbol_c13_eq : aw PP ref18_Symbol_c13 K env H = aw PP ref18_Symbol_c4 (seqK PP ref18_Symbol_c12 K) env H := aw_seq ref18_Symbol_c4 ref18_Symbol_c12
def ref18_Symbol_c14 : AC := .loop ref18_Symbol_c13
def ref18_Symbol_c15 : AC := .block 0 ref18_Symbol_c14
@[simp] theorem ref18_Symbol_c15_eq : aw PP ref18_Symbol_c15 K env H = aw PP ref18_Symbol_c14 (blockK 0 K) env H := aw_block _ ref18_Symbol_c14
def ref18_Symbol_c16 : AC := .seq ref18_Symbol_c1 ref18_Symbol_c15
@[simp] theorem ref18_Symbol_c16_eq : aw PP ref18_Symbol_c16 K env H = aw PP ref18_Symbol_c1 (seqK PP ref18_Symbol_c15 K) env H := aw_seq ref18_Symbol_c1 ref18_Symbol_c15
def ref18_Symbol_c17 : AC := .reg [⟨some 7, none, .mov (.c (.int (.i64) 0))⟩] [6, 12]
@[simp] theorem ref18_Symbol_c17_eq : aw PP ref18_Symbol_c17 K env H = awOps PP [⟨some 7, none, .mov (.c (.int (.i64) 0))⟩] (regK K [6, 12]) (panK K) env H := aw_reg _ _
def ref18_Symbol_c18 : AC := .reg [⟨some 23, none, .mov (.t 7)⟩, ⟨some 24, none, .fa 1 1 (.t 2)⟩, ⟨some 25, none, .ld false 1 (.t 24)⟩, ⟨some 26, none, .lenl (.t 25)⟩, ⟨some 27, none, .bin (.lss) (.t 23) (.t 26)⟩] [23, 24, 25, 26]
@[simp] theorem ref18_Symbol_c18_eq : aw PP ref18_Symbol_c18 K env H = awOps PP [⟨some 23, none, .mov (.t 7)⟩, ⟨some 24, none, .fa 1 1 (.t 2)⟩, ⟨some 25, none, .ld false 1 (.t 24)⟩, ⟨some 26, none, .lenl (.t 25)⟩, ⟨some 27, none, .bin (.lss) (.t 23) (.t 26)⟩] (regK K [23, 24, 25, 26]) (panK K) env H := aw_reg _ _
def ref18_Symbol_c19 : AC := .cond (.t 27) .skip (.exit 2)
@[simp] theorem ref18_Symbol_c19_eq : aw PP ref18_Symbol_c19 K env H = condQ PP (Opd.ev env (.t 27)) .skip (.exit 2) K env H := aw_cond _ .skip (.exit 2)
def ref18_Symbol_c20 : AC := .seq ref18_Symbol_c18 ref18_Symbol_c19
@[simp] theorem ref18_Symbol_c20_eq : aw PP ref18_Symbol_c20 K env H = aw PP ref18_Symbol_c18 (seqK PP ref18_Symbol_c19 K) env H := aw_seq ref18_Symbol_c18 ref18_Symbol_c19
def ref18_Symbol_c21 : AC := .reg [⟨some 30, none, .fa 1 1 (.t 2)⟩, ⟨some 31, none, .ld false 1 (.t 30)⟩, ⟨some 32, none, .mov (.t 7)⟩, ⟨some 33, none, .ixa 1 (.t 31) (.t 32)⟩, ⟨some 34, none, .ld false 1 (.t 33)⟩, ⟨some 35, none, .mov (.t 1)⟩, ⟨some 36, none, .bin (.eql) (.t 34) (.t 35)⟩] [27, 30, 31, 32, 33, 34, 35]
@[simp] theorem ref18_Symbol_c21_eq : aw PP ref18_Symbol_c21 K env H = awOps PP [⟨some 30, none, .fa 1 1 (.t 2)⟩, ⟨some 31, none, .ld false 1 (.t 30)⟩, ⟨some 32, none, .mov (.t 7)⟩, ⟨some 33, none, .ixa 1 (.t 31) (.t 32)⟩, ⟨some 34, none, .ld false 1 (.t 33)⟩, ⟨some 35, none, .mov (.t 1)⟩, ⟨some 36, none, .bin (.eql) (.t 34) (.t 35)⟩] (regK K [27, 30, 31, 32, 33, 34, 35]) (panK K) env H := aw_reg _ _
def ref18_Symbol_c22 : AC := .reg [⟨some 37, none, .mov (.t 7)⟩, ⟨some 38, none, .bin (.sub) (.c (.int (.i64) (-1))) (.t 37)⟩, ⟨some 4, none, .mov (.t 38)⟩, ⟨some 5, none, .mov (.c (.bool true))⟩] [1, 2, 7, 36, 37, 38]
@[simp] theorem ref18_Symbol_c22_eq : aw PP ref18_Symbol_c22 K env H = awOps PP [⟨some 37, none, .mov (.t 7)⟩, ⟨some 38, none, .bin (.sub) (.c (.int (.i64) (-1))) (.t 37)⟩, ⟨some 4, none, .mov (.t 38)⟩, ⟨some 5, none, .mov (.c (.bool true))⟩] (regK K [1, 2, 7, 36, 37, 38]) (panK K) env H := aw_reg _ _
def ref18_Symbol_c23 : AC := .seq ref18_Symbol_c22 .ret
@[simp] theorem ref18_Symbol_c23_eq : aw PP ref18_Symbol_c23 K env H = aw PP ref18_Symbol_c22 (seqK PP .ret K) env H := aw_seq ref18_Symbol_c22 .ret
def ref18_Symbol_c24 : AC := .cond (.t 36) ref18_Symbol_c23 .skip
@[simp] theorem ref18_Symbol_c24_eq : aw PP ref18_Symbol_c24 K env H = condQ PP (Opd.ev env (.t 36)) ref18_Symbol_c23 .skip K env H := aw_cond _ ref18_Symbol_c23 .skip
def ref18_Symbol_c25 : AC := .seq ref18_Symbol_c21 ref18_Symbol_c24
@[simp] theorem ref18_Symbol_c25_eq : aw PP ref18_Symbol_c25 K env H = aw PP ref18_Symbol_c21 (seqK PP ref18_Symbol_c24 K) env H := aw_seq ref18_Symbol_c21 ref18_Symbol_c24
def ref18_Symbol_c26 : AC := .block 3 ref18_Symbol_c25
@[simp] theorem ref18_Symbol_c26_eq : aw PP ref18_Symbol_c26 K env H = aw PP ref18_Symbol_c25 (blockK 3 K) env H := aw_block _ ref18_Symbol_c25
def ref18_Symbol_c27 : AC := .reg [⟨some 28, none, .mov (.t 7)⟩, ⟨some 29, none, .bin (.add) (.t 28) (.c (.int (.i64) 1))⟩, ⟨some 7, none, .mov (.t 29)⟩] [28, 29, 36]
@[simp] theorem ref18_Symbol_c27_eq : aw PP ref18_Symbol_c27 K env H = awOps PP [⟨some 28, none, .mov (.t 7)⟩, ⟨some 29, none, .bin (.add) (.t 28) (.c (.int (.i64) 1))⟩, ⟨some 7, none, .mov (.t 29)⟩] (regK K [28, 29, 36]) (panK K) env H := aw_reg _ _
def ref18_Symbol_c28 : AC := .seq ref18_Symbol_c26 ref18_Symbol_c27
@[simp] theorem ref18_Symbol_c28_eq : aw PP ref18_Symbol_c28 K env H = aw PP ref18_Symbol_c26 (seqK PP ref18_Symbol_c27 K) env H := aw_seq ref18_Symbol_c26 ref18_Symbol_c27
def ref18_Symbol_c29 : AC := .seq ref18_Symbol_c20 ref18_Symbol_c28
@[simp] theorem ref18_Symbol_c29_eq : aw PP ref18_Symbol_c29 K env H = aw PP ref18_Symbol_c20 (seqK PP ref18_Symbol_c28 K) env H := aw_seq ref18_Symbol_c20 ref18_Symbol_c28
def ref18_Symbol_c30 : AC := .loop ref18_Symbol_c29
def ref18_Symbol_c31 : AC := .block 2 ref18_Symbol_c30
@[simp] theorem ref18_Symbol_c31_eq : aw PP ref18_Symbol_c31 K env H = aw PP ref18_Symbol_c30 (blockK 2 K) env H := aw_block _ ref18_Symbol_c30
def ref18_Symbol_c32 : AC := .seq ref18_Symbol_c17 ref18_Symbol_c31
@[simp] theorem ref18_Symbol_c32_eq : aw PP ref18_Symbol_c32 K env H = aw PP ref18_Symbol_c17 (seqK PP ref18_Symbol_c31 K) env H := aw_seq ref18_Symbol_c17 ref18_Symbol_c31
def ref18_Symbol_c33 : AC := .reg [⟨some 4, none, .mov (.c (.int (.i64) 0))⟩, ⟨some 5, none, .mov (.c (.bool false))⟩] [1, 2, 7, 27]
@[simp] theorem ref18_Symbol_c33_eq : aw PP ref18_Symbol_c33 K env H = awOps PP [⟨some 4, none, .mov (.c (.int (.i64) 0))⟩, ⟨some 5, none, .mov (.c (.bool false))⟩] (regK K [1, 2, 7, 27]) (panK K) env H := aw_reg _ _
def ref18_Symbol_c34 : AC := .seq ref18_Symbol_c33 .ret
@[simp] theorem ref18_Symbol_c34_eq : aw PP ref18_Symbol_c34 K env H = aw PP ref18_Symbol_c33 (seqK PP .ret K) env H := aw_seq ref18_Symbol_c33 .ret
def ref18_Symbol_c35 : AC := .seq ref18_Symbol_c32 ref18_Symbol_c34
@[simp] theorem ref18_Symbol_c35_eq : aw PP ref18_Symbol_c35 K env H = aw PP ref18_Symbol_c32 (seqK PP ref18_Symbol_c34 K) env H := aw_seq ref18_Symbol_c32 ref18_Symbol_c34
def ref18_Symbol_c36 : AC := .seq ref18_Symbol_c16 ref18_Symbol_c35
@[simp] theorem ref18_Symbol_c36_eq : aw PP ref18_Symbol_c36 K env H = aw PP ref18_Symbol_c16 (seqK PP ref18_Symbol_c35 K) env H := aw_seq ref18_Symbol_c16 ref18_Symbol_c35
def ref18_Symbol_c37 : AC := .seq ref18_Symbol_c0 ref18_Symbol_c36
@[simp] theorem ref18_Symbol_c37_eq : aw PP ref18_Symbol_c37 K env H = aw PP ref18_Symbol_c0 (seqK PP ref18_Symbol_c36 K) env H := aw_seq ref18_Symbol_c0 ref18_Symbol_c36
def ref18_Symbol_ac : AC := ref18_Symbol_c37
@[simp] theorem ref18_Symbol_ac_eq : aw PP ref18_Symbol_ac K env H = aw PP ref18_Symbol_c37 K env H := Eq.trans rfl rfl
def ref18_Symbol_rs : List ARV := [.tmp 4, .tmp 5]
abbrev ref18_Symbol_id : Nat := 19
theorem ref18_Symbol_comp : compF PP ref18_Symbol_kl ref18_Symbol_ow 2 Tryd.f19 = some (ref18_Symbol_ac, ref18_Symbol_rs) := by kernel_rfl
theorem ref18_Symbol_enter {args : List AV} {H : AHeap} {post : ARes → AHeap → Prop} (ha : args.length = 2) (h : aw PP ref18_Symbol_ac (retK ref18_Symbol_rs post) (argEnv 0 args) H) : ACalls PP ref18_Symbol_id args H post := .enterF Tryd.func19 PP_mix ref18_Symbol_comp ha h

/-! emendate.grammar.RulesOf -/
def grammar_RulesOf_kl : Nat → List Nat
  | 0 => [0, 4]
  | 2 => [2, 8]
  | 4 => [12, 13, 14, 15]
  | 5 => [7, 16, 17, 18]
  | 6 => [6, 19, 20, 21, 22, 23]
  | 7 => [6, 19, 24]
  | 8 => [1, 5, 9, 10, 11, 12, 25]
  | _ => []
def grammar_RulesOf_ow : Nat → Nat → Bool := fun _ _ => false
def grammar_RulesOf_c0 : AC := .reg [⟨some 2, none, .box (.t 0) 4 25⟩, ⟨some 4, none, .mov (.c (.nils))⟩] [0, 4]
@[simp] theorem grammar_RulesOf_c0_eq : aw PP grammar_RulesOf_c0 K env H = awOps PP [⟨some 2, none, .box (.t 0) 4 25⟩, ⟨some 4, none, .mov (.c (.nils))⟩] (regK K [0, 4]) (panK K) env H := aw_reg _ _
def grammar_RulesOf_c1 : AC := .reg [⟨some 5, none, .mov (.c (.nils))⟩] []
@[simp] theorem grammar_RulesOf_c1_eq : aw PP grammar_RulesOf_c1 K env H = awOps PP [⟨some 5, none, .mov (.c (.nils))⟩] (regK K []) (panK K) env H := aw_reg _ _
def grammar_RulesOf_c2 : AC := .reg [⟨some 8, none, .fa 3 3 (.t 2)⟩, ⟨some 9, none, .ld false 1 (.t 8)⟩, ⟨some 10, none, .lenl (.t 9)⟩, ⟨some 11, none, .mov (.c (.int (.i64) 0))⟩] [2, 8]
@[simp] theorem grammar_RulesOf_c2_eq : aw PP grammar_RulesOf_c2 K env H = awOps PP [⟨some 8, none, .fa 3 3 (.t 2)⟩, ⟨some 9, none, .ld false 1 (.t 8)⟩, ⟨some 10, none, .lenl (.t 9)⟩, ⟨some 11, none, .mov (.c (.int (.i64) 0))⟩] (regK K [2, 8]) (panK K) env H := aw_reg _ _
def grammar_RulesOf_c3 : AC := .reg [⟨some 12, none, .bin (.lss) (.t 11) (.t 10)⟩] []
@[simp] theorem grammar_RulesOf_c3_eq : aw PP grammar_RulesOf_c3 K env H = awOps PP [⟨some 12, none, .bin (.lss) (.t 11) (.t 10)⟩] (regK K []) (panK K) env H := aw_reg _ _
def grammar_RulesOf_c4 : AC := .cond (.t 12) .skip (.exit 0)
@[simp] theorem grammar_RulesOf_c4_eq : aw PP grammar_RulesOf_c4 K env H = condQ PP (Opd.ev env (.t 12)) .skip (.exit 0) K env H := aw_cond _ .skip (.exit 0)
def grammar_RulesOf_c5 : AC := .reg [⟨some 13, none, .mov (.t 11)⟩, ⟨some 14, none, .ixa 3 (.t 9) (.t 11)⟩, ⟨some 15, none, .ld true 3 (.t 14)⟩, ⟨some 7, none, .alloc (.struct [.int (.i64) 0, .nils, .int (.i64) 0]) 36⟩, ⟨some 6, none, .mov (.t 13)⟩, ⟨none, none, .st 3 (.t 7) (.t 15)⟩] [12, 13, 14, 15]
@[simp] theorem grammar_RulesOf_c5_eq : aw PP grammar_RulesOf_c5 K env H = awOps PP [⟨some 13, none, .mov (.t 11)⟩, ⟨some 14, none, .ixa 3 (.t 9) (.t 11)⟩, ⟨some 15, none, .ld true 3 (.t 14)⟩, ⟨some 7, none, .alloc (.struct [.int (.i64) 0, .nils, .int (.i64) 0]) 36⟩, ⟨some 6, none, .mov (.t 13)⟩, ⟨none, none, .st 3 (.t 7) (.t 15)⟩] (regK K [12, 13, 14, 15]) (panK K) env H := aw_reg _ _
def grammar_RulesOf_c6 : AC := .reg [⟨some 16, none, .fa 0 0 (.t 7)⟩, ⟨some 17, none, .ld false 1 (.t 16)⟩, ⟨some 18, none, .mov (.t 1)⟩, ⟨some 19, none, .bin (.eql) (.t 17) (.t 18)⟩] [7, 16, 17, 18]
@[simp] theorem grammar_RulesOf_c6_eq : aw PP grammar_RulesOf_c6 K env H = awOps PP [⟨some 16, none, .fa 0 0 (.t 7)⟩, ⟨some 17, none, .ld false 1 (.t 16)⟩, ⟨some 18, none, .mov (.t 1)⟩, ⟨some 19, none, .bin (.eql) (.t 17) (.t 18)⟩] (regK K [7, 16, 17, 18]) (panK K) env H := aw_reg _ _
def grammar_RulesOf_c7 : AC := .reg [⟨some 20, none, .mov (.t 5)⟩, ⟨some 21, none, .mov (.t 6)⟩, ⟨some 22, none, .bsl false 3 1 1 (.int (.i64) 0) [(0, .t 21)]⟩, ⟨some 23, none, .app 3 1 8 (.t 20) (.t 22)⟩, ⟨some 5, none, .mov (.t 23)⟩] [6, 19, 20, 21, 22, 23]
@[simp] theorem grammar_RulesOf_c7_eq : aw PP grammar_RulesOf_c7 K env H = awOps PP [⟨some 20, none, .mov (.t 5)⟩, ⟨some 21, none, .mov (.t 6)⟩, ⟨some 22, none, .bsl false 3 1 1 (.int (.i64) 0) [(0, .t 21)]⟩, ⟨some 23, none, .app 3 1 8 (.t 20) (.t 22)⟩, ⟨some 5, none, .mov (.t 23)⟩] (regK K [6, 19, 20, 21, 22, 23]) (panK K) env H := aw_reg _ _
def grammar_RulesOf_c8 : AC := .cond (.t 19) grammar_RulesOf_c7 .skip
@[simp] theorem grammar_RulesOf_c8_eq : aw PP grammar_RulesOf_c8 K env H = condQ PP (Opd.ev env (.t 19)) grammar_RulesOf_c7 .skip K env H := aw_cond _ grammar_RulesOf_c7 .skip
def grammar_RulesOf_c9 : AC := .seq grammar_RulesOf_c6 grammar_RulesOf_c8
@[simp] theorem grammar_RulesOf_c9_eq : aw PP grammar_RulesOf_c9 K env H = aw PP grammar_RulesOf_c6 (seqK PP grammar_RulesOf_c8 K) env H := aw_seq grammar_RulesOf_c6 grammar_RulesOf_c8
def grammar_RulesOf_c10 : AC := .seq grammar_RulesOf_c5 grammar_RulesOf_c9
@[simp] theorem grammar_RulesOf_c10_eq : aw PP grammar_RulesOf_c10 K env H = aw PP grammar_RulesOf_c5 (seqK PP grammar_RulesOf_c9 K) env H := aw_seq grammar_RulesOf_c5 grammar_RulesOf_c9
def grammar_RulesOf_c11 : AC := .block 1 grammar_RulesOf_c10
@[simp] theorem grammar_RulesOf_c11_eq : aw PP grammar_RulesOf_c11 K env H = aw PP grammar_RulesOf_c10 (blockK 1 K) env H := aw_block _ grammar_RulesOf_c10
def grammar_RulesOf_c12 : AC := .reg [⟨some 24, none, .bin (.add) (.t 11) (.c (.int (.i64) 1))⟩, ⟨some 11, none, .mov (.t 24)⟩] [6, 19, 24]
@[simp] theorem grammar_RulesOf_c12_eq : aw PP grammar_RulesOf_c12 K env H = awOps PP [⟨some 24, none, .bin (.add) (.t 11) (.c (.int (.i64) 1))⟩, ⟨some 11, none, .mov (.t 24)⟩] (regK K [6, 19, 24]) (panK K) env H := aw_reg _ _
def grammar_RulesOf_c13 : AC := .seq grammar_RulesOf_c11 grammar_RulesOf_c12
@[simp] theorem grammar_RulesOf_c13_eq : aw PP grammar_RulesOf_c13 K env H = aw PP grammar_RulesOf_c11 (seqK PP grammar_RulesOf_c12 K) env H := aw_seq grammar_RulesOf_c11 grammar_RulesOf_c12
def grammar_RulesOf_c14 : AC := .seq grammar_RulesOf_c4 grammar_RulesOf_c13
@[simp] theorem grammar_RulesOf_c14_eq : aw PP grammar_RulesOf_c14 K env H = aw PP grammar_RulesOf_c4 (seqK PP grammar_RulesOf_c13 K) env H := aw_seq grammar_RulesOf_c4 grammar_RulesOf_c13
def grammar_RulesOf_c15 : AC := .seq grammar_RulesOf_c3 grammar_RulesOf_c14
@[simp] theorem grammar_RulesOf_c15_eq : aw PP grammar_RulesOf_c15 K env H = aw PP grammar_RulesOf_c3 (seqK PP grammar_RulesOf_c14 K) env H := aw_seq grammar_RulesOf_c3 grammar_RulesOf_c14
def grammar_RulesOf_c16 : AC := .loop grammar_RulesOf_c15
def grammar_RulesOf_c17 : AC := .block 0 grammar_RulesOf_c16
@[simp] theorem grammar_RulesOf_c17_eq : aw PP grammar_RulesOf_c17 K env H = aw PP grammar_RulesOf_c16 (blockK 0 K) env H := aw_block _ grammar_RulesOf_c16
def grammar_RulesOf_c18 : AC := .seq grammar_RulesOf_c2 grammar_RulesOf_c17
@[simp] theorem grammar_RulesOf_c18_eq : aw PP grammar_RulesOf_c18 K env H = aw PP grammar_RulesOf_c2 (seqK PP grammar_RulesOf_c17 K) env H := aw_seq grammar_RulesOf_c2 grammar_RulesOf_c17
def grammar_RulesOf_c19 : AC := .reg [⟨some 25, none, .mov (.t 5)⟩, ⟨some 4, none, .mov (.t 25)⟩] [1, 5, 9, 10, 11, 12, 25]
@[simp] theorem grammar_RulesOf_c19_eq : aw PP grammar_RulesOf_c19 K env H = awOps PP [⟨some 25, none, .mov (.t 5)⟩, ⟨some 4, none, .mov (.t 25)⟩] (regK K [1, 5, 9, 10, 11, 12, 25]) (panK K) env H := aw_reg _ _
def grammar_RulesOf_c20 : AC := .seq grammar_RulesOf_c19 .ret
@[simp] theorem grammar_RulesOf_c20_eq : aw PP grammar_RulesOf_c20 K env H = aw PP grammar_RulesOf_c19 (seqK PP .ret K) env H := aw_seq grammar_RulesOf_c19 .ret
def grammar_RulesOf_c21 : AC := .seq grammar_RulesOf_c18 grammar_RulesOf_c20
@[simp] theorem grammar_RulesOf_c21_eq : aw PP grammar_RulesOf_c21 K env H = aw PP grammar_RulesOf_c18 (seqK PP grammar_RulesOf_c20 K) env H := aw_seq grammar_RulesOf_c18 grammar_RulesOf_c20
def grammar_RulesOf_c22 : AC := .seq grammar_RulesOf_c1 grammar_RulesOf_c21
@[simp] theorem grammar_RulesOf_c22_eq : aw PP grammar_RulesOf_c22 K env H = aw PP grammar_RulesOf_c1 (seqK PP grammar_RulesOf_c21 K) env H := aw_seq grammar_RulesOf_c1 grammar_RulesOf_c21
def grammar_RulesOf_c23 : AC := .seq grammar_RulesOf_c0 grammar_RulesOf_c22
@[simp] theorem grammar_RulesOf_c23_eq : aw PP grammar_RulesOf_c23 K env H = aw PP grammar_RulesOf_c0 (seqK PP grammar_RulesOf_c22 K) env H := aw_seq grammar_RulesOf_c0 grammar_RulesOf_c22
def grammar_RulesOf_ac : AC := grammar_RulesOf_c23
@[simp] theorem grammar_RulesOf_ac_eq : aw PP grammar_RulesOf_ac K env H = aw PP grammar_RulesOf_c23 K env H := Eq.trans rfl rfl
def grammar_RulesOf_rs : List ARV := [.tmp 4]
abbrev grammar_RulesOf_id : Nat := 20
theorem grammar_RulesOf_comp : compF PP grammar_RulesOf_kl grammar_RulesOf_ow 2 Tryd.f20 = some (grammar_RulesOf_ac, grammar_RulesOf_rs) := by kernel_rfl
theorem grammar_RulesOf_enter {args : List AV} {H : AHeap} {post : ARes → AHeap → Prop} (ha : args.length = 2) (h : aw PP grammar_RulesOf_ac (retK grammar_RulesOf_rs post) (argEnv 0 args) H) : ACalls PP grammar_RulesOf_id args H post := .enterF Tryd.func20 PP_mix grammar_RulesOf_comp ha h

/-! emendate.emendatelaw18.example -/
def law18_example_kl : Nat → List Nat
  | 1 => [1, 2, 3, 4, 5, 6, 7]
  | _ => []
def law18_example_ow : Nat → Nat → Bool := fun _ _ => false
def law18_example_c0 : AC := .reg [⟨some 0, none, .alloc (.struct [.nils, .nils, .int (.i64) 0, .nils]) 25⟩] []
@[simp] theorem law18_example_c0_eq : aw PP law18_example_c0 K env H = awOps PP [⟨some 0, none, .alloc (.struct [.nils, .nils, .int (.i64) 0, .nils]) 25⟩] (regK K []) (panK K) env H := aw_reg _ _
def law18_example_c1 : AC := .reg [⟨some 1, none, .bsl false 9 1 2 (.str []) [(0, .c (.str [97])), (1, .c (.str [98]))]⟩, ⟨some 2, none, .bsl false 9 1 1 (.str []) [(0, .c (.str [83]))]⟩, ⟨some 3, none, .bsl false 3 1 3 (.int (.i64) 0) [(0, .c (.int (.i64) 0)), (1, .c (.int (.i64) (-1))), (2, .c (.int (.i64) 1))]⟩, ⟨some 4, none, .build [.int (.i64) 0, .nils, .int (.i64) 0] [(1, .t 3), (2, .c (.int (.i64) 2))]⟩, ⟨some 5, none, .build [.int (.i64) 0, .nils, .int (.i64) 0] []⟩, ⟨some 6, none, .bsl false 36 3 2 (.struct [.int (.i64) 0, .nils, .int (.i64) 0]) [(0, .t 4), (1, .t 5)]⟩, ⟨some 7, none, .build [.nils, .nils, .int (.i64) 0, .nils] [(0, .t 1), (1, .t 2), (3, .t 6)]⟩, ⟨none, none, .st 4 (.t 0) (.t 7)⟩] [1, 2, 3, 4, 5, 6, 7]
@[simp] theorem law18_example_c1_eq : aw PP law18_example_c1 K env H = awOps PP [⟨some 1, none, .bsl false 9 1 2 (.str []) [(0, .c (.str [97])), (1, .c (.str [98]))]⟩, ⟨some 2, none, .bsl false 9 1 1 (.str []) [(0, .c (.str [83]))]⟩, ⟨some 3, none, .bsl false 3 1 3 (.int (.i64) 0) [(0, .c (.int (.i64) 0)), (1, .c (.int (.i64) (-1))), (2, .c (.int (.i64) 1))]⟩, ⟨some 4, none, .build [.int (.i64) 0, .nils, .int (.i64) 0] [(1, .t 3), (2, .c (.int (.i64) 2))]⟩, ⟨some 5, none, .build [.int (.i64) 0, .nils, .int (.i64) 0] []⟩, ⟨some 6, none, .bsl false 36 3 2 (.struct [.int (.i64) 0, .nils, .int (.i64) 0]) [(0, .t 4), (1, .t 5)]⟩, ⟨some 7, none, .build [.nils, .nils, .int (.i64) 0, .nils] [(0, .t 1), (1, .t 2), (3, .t 6)]⟩, ⟨none, none, .st 4 (.t 0) (.t 7)⟩] (regK K [1, 2, 3, 4, 5, 6, 7]) (panK K) env H := aw_reg _ _
def law18_example_c2 : AC := .seq law18_example_c1 .ret
@[simp] theorem law18_example_c2_eq : aw PP law18_example_c2 K env H = aw PP law18_example_c1 (seqK PP .ret K) env H := aw_seq law18_example_c1 .ret
def law18_example_c3 : AC := .seq law18_example_c0 law18_example_c2
@[simp] theorem law18_example_c3_eq : aw PP law18_example_c3 K env H = aw PP law18_example_c0 (seqK PP law18_example_c2 K) env H := aw_seq law18_example_c0 law18_example_c2
def law18_example_ac : AC := law18_example_c3
@[simp] theorem law18_example_ac_eq : aw PP law18_example_ac K env H = aw PP law18_example_c3 K env H := Eq.trans rfl rfl
def law18_example_rs : List ARV := [.cell 0 true 4]
abbrev law18_example_id : Nat := 21
theorem law18_example_comp : compF PP law18_example_kl law18_example_ow 0 Tryd.f21 = some (law18_example_ac, law18_example_rs) := by kernel_rfl
theorem law18_example_enter {args : List AV} {H : AHeap} {post : ARes → AHeap → Prop} (ha : args.length = 0) (h : aw PP law18_example_ac (retK law18_example_rs post) (argEnv 0 args) H) : ACalls PP law18_example_id args H post := .enterF Tryd.func21 PP_mix law18_example_comp ha h

/-! emendate.grammar.named -/
def grammar_named_kl : Nat → List Nat
  | 0 => [0, 2]
  | 1 => [10]
  | 2 => [1, 11, 12, 13, 14]
  | 4 => [18, 19, 20]
  | 5 => [5]
  | 7 => [24, 25, 26]
  | 8 => [8, 27, 28, 29, 30, 31, 32]
  | 9 => [9, 33, 34, 35, 36, 37]
  | 10 => [3, 7, 15, 16, 17, 21, 22, 23, 38]
  | 11 => [7, 38, 39, 40, 41]
  | 12 => [42]
  | 13 => [21, 22, 23, 24, 43]
  | 14 => [3, 15, 16, 17, 18]
  | _ => []
def grammar_named_ow : Nat → Nat → Bool := fun _ _ => false
def grammar_named_c0 : AC := .reg [⟨some 1, none, .box (.t 0) 4 25⟩, ⟨some 2, none, .mov (.c (.bool false))⟩] [0, 2]
@[simp] theorem grammar_named_c0_eq : aw PP grammar_named_c0 K env H = awOps PP [⟨some 1, none, .box (.t 0) 4 25⟩, ⟨some 2, none, .mov (.c (.bool false))⟩] (regK K [0, 2]) (panK K) env H := aw_reg _ _
def grammar_named_c1 : AC := .reg [⟨some 10, none, .mkm⟩, ⟨some 3, none, .mov (.t 10)⟩] [10]
@[simp] theorem grammar_named_c1_eq : aw PP grammar_named_c1 K env H = awOps PP [⟨some 10, none, .mkm⟩, ⟨some 3, none, .mov (.t 10)⟩] (regK K [10]) (panK K) env H := aw_reg _ _
def grammar_named_c2 : AC := .reg [⟨some 11, none, .fa 0 0 (.t 1)⟩, ⟨some 12, none, .ld false 1 (.t 11)⟩, ⟨some 13, none, .fa 1 1 (.t 1)⟩, ⟨some 14, none, .ld false 1 (.t 13)⟩, ⟨some 15, none, .bsl false 22 1 2 (.nils) [(0, .t 12), (1, .t 14)]⟩, ⟨some 16, none, .lenl (.t 15)⟩, ⟨some 17, none, .mov (.c (.int (.i64) 0))⟩] [1, 11, 12, 13, 14]
@[simp] theorem grammar_named_c2_eq : aw PP grammar_named_c2 K env H = awOps PP [⟨some 11, none, .fa 0 0 (.t 1)⟩, ⟨some 12, none, .ld false 1 (.t 11)⟩, ⟨some 13, none, .fa 1 1 (.t 1)⟩, ⟨some 14, none, .ld false 1 (.t 13)⟩, ⟨some 15, none, .bsl false 22 1 2 (.nils) [(0, .t 12), (1, .t 14)]⟩, ⟨some 16, none, .lenl (.t 15)⟩, ⟨some 17, none, .mov (.c (.int (.i64) 0))⟩] (regK K [1, 11, 12, 13, 14]) (panK K) env H := aw_reg _ _
def grammar_named_c3 : AC := .reg [⟨some 18, none, .bin (.lss) (.t 17) (.t 16)⟩] []
@[simp] theorem grammar_named_c3_eq : aw PP grammar_named_c3 K env H = awOps PP [⟨some 18, none, .bin (.lss) (.t 17) (.t 16)⟩] (regK K []) (panK K) env H := aw_reg _ _
def grammar_named_c4 : AC := .cond (.t 18) .skip (.exit 0)
@[simp] theorem grammar_named_c4_eq : aw PP grammar_named_c4 K env H = condQ PP (Opd.ev env (.t 18)) .skip (.exit 0) K env H := aw_cond _ .skip (.exit 0)
def grammar_named_c5 : AC := .reg [⟨some 19, none, .ixa 1 (.t 15) (.t 17)⟩, ⟨some 20, none, .ld false 1 (.t 19)⟩, ⟨some 5, none, .mov (.t 20)⟩] [18, 19, 20]
@[simp] theorem grammar_named_c5_eq : aw PP grammar_named_c5 K env H = awOps PP [⟨some 19, none, .ixa 1 (.t 15) (.t 17)⟩, ⟨some 20, none, .ld false 1 (.t 19)⟩, ⟨some 5, none, .mov (.t 20)⟩] (regK K [18, 19, 20]) (panK K) env H := aw_reg _ _
def grammar_named_c6 : AC := .reg [⟨some 21, none, .mov (.t 5)⟩, ⟨some 22, none, .lenl (.t 21)⟩, ⟨some 23, none, .mov (.c (.int (.i64) 0))⟩] [5]
@[simp] theorem grammar_named_c6_eq : aw PP grammar_named_c6 K env H = awOps PP [⟨some 21, none, .mov (.t 5)⟩, ⟨some 22, none, .lenl (.t 21)⟩, ⟨some 23, none, .mov (.c (.int (.i64) 0))⟩] (regK K [5]) (panK K) env H := aw_reg _ _
def grammar_named_c7 : AC := .reg [⟨some 24, none, .bin (.lss) (.t 23) (.t 22)⟩] []
@[simp] theorem grammar_named_c7_eq : aw PP grammar_named_c7 K env H = awOps PP [⟨some 24, none, .bin (.lss) (.t 23) (.t 22)⟩] (regK K []) (panK K) env H := aw_reg _ _
def grammar_named_c8 : AC := .cond (.t 24) .skip (.exit 2)
@[simp] theorem grammar_named_c8_eq : aw PP grammar_named_c8 K env H = condQ PP (Opd.ev env (.t 24)) .skip (.exit 2) K env H := aw_cond _ .skip (.exit 2)
def grammar_named_c9 : AC := .reg [⟨some 25, none, .ixa 1 (.t 21) (.t 23)⟩, ⟨some 26, none, .ld false 1 (.t 25)⟩, ⟨some 7, none, .mov (.t 26)⟩] [24, 25, 26]
@[simp] theorem grammar_named_c9_eq : aw PP grammar_named_c9 K env H = awOps PP [⟨some 25, none, .ixa 1 (.t 21) (.t 23)⟩, ⟨some 26, none, .ld false 1 (.t 25)⟩, ⟨some 7, none, .mov (.t 26)⟩] (regK K [24, 25, 26]) (panK K) env H := aw_reg _ _
def grammar_named_c10 : AC := .reg [⟨some 28, none, .mov (.t 3)⟩, ⟨some 29, none, .mov (.t 7)⟩, ⟨some 30, none, .mpl (.t 28) (.t 29)⟩, ⟨some 27, none, .mov (.t 30)⟩, ⟨some 31, none, .ext (.t 27) 0⟩, ⟨some 32, none, .ext (.t 27) 1⟩, ⟨some 8, none, .alloc (.struct []) 62⟩, ⟨none, none, .st 0 (.t 8) (.t 31)⟩, ⟨some 9, none, .mov (.t 32)⟩] [8, 27, 28, 29, 30, 31, 32]
@[simp] theorem grammar_named_c10_eq : aw PP grammar_named_c10 K env H = awOps PP [⟨some 28, none, .mov (.t 3)⟩, ⟨some 29, none, .mov (.t 7)⟩, ⟨some 30, none, .mpl (.t 28) (.t 29)⟩, ⟨some 27, none, .mov (.t 30)⟩, ⟨some 31, none, .ext (.t 27) 0⟩, ⟨some 32, none, .ext (.t 27) 1⟩, ⟨some 8, none, .alloc (.struct []) 62⟩, ⟨none, none, .st 0 (.t 8) (.t 31)⟩, ⟨some 9, none, .mov (.t 32)⟩] (regK K [8, 27, 28, 29, 30, 31, 32]) (panK K) env H := aw_reg _ _
def grammar_named_c11 : AC := .reg [⟨some 33, none, .mov (.t 9)⟩, ⟨some 34, none, .mov (.t 33)⟩, ⟨some 35, some (34, false), .mov (.t 7)⟩, ⟨some 36, some (34, false), .call (.c (.fn (.func 39) [] [])) [.t 35]⟩, ⟨some 37, some (34, false), .not (.t 36)⟩, ⟨some 38, none, .pick (.t 34) (.c (.bool true)) (.t 37)⟩] [9, 33, 34, 35, 36, 37]
@[simp] theorem grammar_named_c11_eq : aw PP grammar_named_c11 K env H = awOps PP [⟨some 33, none, .mov (.t 9)⟩, ⟨some 34, none, .mov (.t 33)⟩, ⟨some 35, some (34, false), .mov (.t 7)⟩, ⟨some 36, some (34, false), .call (.c (.fn (.func 39) [] [])) [.t 35]⟩, ⟨some 37, some (34, false), .not (.t 36)⟩, ⟨some 38, none, .pick (.t 34) (.c (.bool true)) (.t 37)⟩] (regK K [9, 33, 34, 35, 36, 37]) (panK K) env H := aw_reg _ _
def grammar_named_c12 : AC := .reg [⟨some 2, none, .mov (.c (.bool false))⟩] [3, 7, 15, 16, 17, 21, 22, 23, 38]
@[simp] theorem grammar_named_c12_eq : aw PP grammar_named_c12 K env H = awOps PP [⟨some 2, none, .mov (.c (.bool false))⟩] (regK K [3, 7, 15, 16, 17, 21, 22, 23, 38]) (panK K) env H := aw_reg _ _
def grammar_named_c13 : AC := .seq grammar_named_c12 .ret
@[simp] theorem grammar_named_c13_eq : aw PP grammar_named_c13 K env H = aw PP grammar_named_c12 (seqK PP .ret K) env H := aw_seq grammar_named_c12 .ret
def grammar_named_c14 : AC := .cond (.t 38) grammar_named_c13 .skip
@[simp] theorem grammar_named_c14_eq : aw PP grammar_named_c14 K env H = condQ PP (Opd.ev env (.t 38)) grammar_named_c13 .skip K env H := aw_cond _ grammar_named_c13 .skip
def grammar_named_c15 : AC := .seq grammar_named_c11 grammar_named_c14
@[simp] theorem grammar_named_c15_eq : aw PP grammar_named_c15 K env H = aw PP grammar_named_c11 (seqK PP grammar_named_c14 K) env H := aw_seq grammar_named_c11 grammar_named_c14
def grammar_named_c16 : AC := .seq grammar_named_c10 grammar_named_c15
@[simp] theorem grammar_named_c16_eq : aw PP grammar_named_c16 K env H = aw PP grammar_named_c10 (seqK PP grammar_named_c15 K) env H := aw_seq grammar_named_c10 grammar_named_c15
def grammar_named_c17 : AC := .reg [⟨some 39, none, .mov (.t 3)⟩, ⟨some 40, none, .mov (.t 7)⟩, ⟨some 41, none, .build [] []⟩, ⟨none, none, .mpu (.t 39) (.t 40) (.t 41)⟩] [7, 38, 39, 40, 41]
@[simp] theorem grammar_named_c17_eq : aw PP grammar_named_c17 K env H = awOps PP [⟨some 39, none, .mov (.t 3)⟩, ⟨some 40, none, .mov (.t 7)⟩, ⟨some 41, none, .build [] []⟩, ⟨none, none, .mpu (.t 39) (.t 40) (.t 41)⟩] (regK K [7, 38, 39, 40, 41]) (panK K) env H := aw_reg _ _
def grammar_named_c18 : AC := .seq grammar_named_c16 grammar_named_c17
@[simp] theorem grammar_named_c18_eq : aw PP grammar_named_c18 K env H = aw PP grammar_named_c16 (seqK PP grammar_named_c17 K) env H := aw_seq grammar_named_c16 grammar_named_c17
def grammar_named_c19 : AC := .seq grammar_named_c9 grammar_named_c18
@[simp] theorem grammar_named_c19_eq : aw PP grammar_named_c19 K env H = aw PP grammar_named_c9 (seqK PP grammar_named_c18 K) env H := aw_seq grammar_named_c9 grammar_named_c18
def grammar_named_c20 : AC := .block 3 grammar_named_c19
@[simp] theorem grammar_named_c20_eq : aw PP grammar_named_c20 K env H = aw PP grammar_named_c19 (blockK 3 K) env H := aw_block _ grammar_named_c19
def grammar_named_c21 : AC := .reg [⟨some 42, none, .bin (.add) (.t 23) (.c (.int (.i64) 1))⟩, ⟨some 23, none, .mov (.t 42)⟩] [42]
@[simp] theorem grammar_named_c21_eq : aw PP grammar_named_c21 K env H = awOps PP [⟨some 42, none, .bin (.add) (.t 23) (.c (.int (.i64) 1))⟩, ⟨some 23, none, .mov (.t 42)⟩] (regK K [42]) (panK K) env H := aw_reg _ _
def grammar_named_c22 : AC := .seq grammar_named_c20 grammar_named_c21
@[simp] theorem grammar_named_c22_eq : aw PP grammar_named_c22 K env H = aw PP grammar_named_c20 (seqK PP grammar_named_c21 K) env H := aw_seq grammar_named_c20 grammar_named_c21
def grammar_named_c23 : AC := .seq grammar_named_c8 grammar_named_c22
@[simp] theorem grammar_named_c23_eq : aw PP grammar_named_c23 K env H = aw PP grammar_named_c8 (seqK PP grammar_named_c22 K) env H := aw_seq grammar_named_c8 grammar_named_c22
def grammar_named_c24 : AC := .seq grammar_named_c7 grammar_named_c23
@[simp] theorem grammar_named_c24_eq : aw PP grammar_named_c24 K env H = aw PP grammar_named_c7 (seqK PP grammar_named_c23 K) env H := aw_seq grammar_named_c7 grammar_named_c23
def grammar_named_c25 : AC := .loop grammar_named_c24
def grammar_named_c26 : AC := .block 2 grammar_named_c25
@[simp] theorem grammar_named_c26_eq : aw PP grammar_named_c26 K env H = aw PP grammar_named_c25 (blockK 2 K) env H := aw_block _ grammar_named_c25
def grammar_named_c27 : AC := .seq grammar_named_c6 grammar_named_c26
@[simp] theorem grammar_named_c27_eq : aw PP grammar_named_c27 K env H = aw PP grammar_named_c6 (seqK PP grammar_named_c26 K) env H := aw_seq grammar_named_c6 grammar_named_c26
def grammar_named_c28 : AC := .seq grammar_named_c5 grammar_named_c27
@[simp] theorem grammar_named_c28_eq : aw PP grammar_named_c28 K env H = aw PP grammar_named_c5 (seqK PP grammar_named_c27 K) env H := aw_seq grammar_named_c5 grammar_named_c27
def grammar_named_c29 : AC := .block 1 grammar_named_c28
@[simp] theorem grammar_named_c29_eq : aw PP grammar_named_c29 K env H = aw PP grammar_named_c28 (blockK 1 K) env H := aw_block _ grammar_named_c28
def grammar_named_c30 : AC := .reg [⟨some 43, none, .bin (.add) (.t 17) (.c (.int (.i64) 1))⟩, ⟨some 17, none, .mov (.t 43)⟩] [21, 22, 23, 24, 43]
@[simp] theorem grammar_named_c30_eq : aw PP grammar_named_c30 K env H = awOps PP [⟨some 43, none, .bin (.add) (.t 17) (.c (.int (.i64) 1))⟩, ⟨some 17, none, .mov (.t 43)⟩] (regK K [21, 22, 23, 24, 43]) (panK K) env H := aw_reg _ _
def grammar_named_c31 : AC := .seq grammar_named_c29 grammar_named_c30
@[simp] theorem grammar_named_c31_eq : aw PP grammar_named_c31 K env H = aw PP grammar_named_c29 (seqK PP grammar_named_c30 K) env H := aw_seq grammar_named_c29 grammar_named_c30
def grammar_named_c32 : AC := .seq grammar_named_c4 grammar_named_c31
@[simp] theorem grammar_named_c32_eq : aw PP grammar_named_c32 K env H = aw PP grammar_named_c4 (seqK PP grammar_named_c31 K) env H := aw_seq grammar_named_c4 grammar_named_c31
def grammar_named_c33 : AC := .seq grammar_named_c3 grammar_named_c32
@[simp] theorem grammar_named_c33_eq : aw PP grammar_named_c33 K env H = aw PP grammar_named_c3 (seqK PP grammar_named_c32 K) env H := aw_seq grammar_named_c3 grammar_named_c32
def grammar_named_c34 : AC := .loop grammar_named_c33
def grammar_named_c35 : AC := .block 0 grammar_named_c34
@[simp] theorem grammar_named_c35_eq : aw PP grammar_named_c35 K env H = aw PP grammar_named_c34 (blockK 0 K) env H := aw_block _ grammar_named_c34
def grammar_named_c36 : AC := .seq grammar_named_c2 grammar_named_c35
@[simp] theorem grammar_named_c36_eq : aw PP grammar_named_c36 K env H = aw PP grammar_named_c2 (seqK PP grammar_named_c35 K) env H := aw_seq grammar_named_c2 grammar_named_c35
def grammar_named_c37 : AC := .reg [⟨some 2, none, .mov (.c (.bool true))⟩] [3, 15, 16, 17, 18]
@[simp] theorem grammar_named_c37_eq : aw PP grammar_named_c37 K env H = awOps PP [⟨some 2, none, .mov (.c (.bool true))⟩] (regK K [3, 15, 16, 17, 18]) (panK K) env H := aw_reg _ _
def grammar_named_c38 : AC := .seq grammar_named_c37 .ret
@[simp] theorem grammar_named_c38_eq : aw PP grammar_named_c38 K env H = aw PP grammar_named_c37 (seqK PP .ret K) env H := aw_seq grammar_named_c37 .ret
def grammar_named_c39 : AC := .seq grammar_named_c36 grammar_named_c38
@[simp] theorem grammar_named_c39_eq : aw PP grammar_named_c39 K env H = aw PP grammar_named_c36 (seqK PP grammar_named_c38 K) env H := aw_seq grammar_named_c36 grammar_named_c38
def grammar_named_c40 : AC := .seq grammar_named_c1 grammar_named_c39
@[simp] theorem grammar_named_c40_eq : aw PP grammar_named_c40 K env H = aw PP grammar_named_c1 (seqK PP grammar_named_c39 K) env H := aw_seq grammar_named_c1 grammar_named_c39
def grammar_named_c41 : AC := .seq grammar_named_c0 grammar_named_c40
@[simp] theorem grammar_named_c41_eq : aw PP grammar_named_c41 K env H = aw PP grammar_named_c0 (seqK PP grammar_named_c40 K) env H := aw_seq grammar_named_c0 grammar_named_c40
def grammar_named_ac : AC := grammar_named_c41
@[simp] theorem grammar_named_ac_eq : aw PP grammar_named_ac K env H = aw PP grammar_named_c41 K env H := Eq.trans rfl rfl
def grammar_named_rs : List ARV := [.tmp 2]
abbrev grammar_named_id : Nat := 22
theorem grammar_named_comp : compF PP grammar_named_kl grammar_named_ow 1 Tryd.f22 = some (grammar_named_ac, grammar_named_rs) := by kernel_rfl
theorem grammar_named_enter {args : List AV} {H : AHeap} {post : ARes → AHeap → Prop} (ha : args.length = 1) (h : aw PP grammar_named_ac (retK grammar_named_rs post) (argEnv 0 args) H) : ACalls PP grammar_named_id args H post := .enterF Tryd.func22 PP_mix grammar_named_comp ha h

/-! slices.ContainsFunc[[]int,int] -/
def sC_int_kl : Nat → List Nat
  | 0 => [4]
  | 1 => [0, 1, 5, 6, 7, 8]
  | _ => []
def sC_int_ow : Nat → Nat → Bool := fun _ _ => false
def sC_int_c0 : AC := .reg [⟨some 4, none, .mov (.c (.bool false))⟩] [4]
@[simp] theorem sC_int_c0_eq : aw PP sC_int_c0 K env H = awOps PP [⟨some 4, none, .mov (.c (.bool false))⟩] (regK K [4]) (panK K) env H := aw_reg _ _
def sC_int_c1 : AC := .reg [⟨some 5, none, .mov (.t 0)⟩, ⟨some 6, none, .mov (.t 1)⟩, ⟨some 7, none, .call (.c (.fn (.func 40) [] [])) [.t 5, .t 6]⟩, ⟨some 8, none, .bin (.geq) (.t 7) (.c (.int (.i64) 0))⟩, ⟨some 4, none, .mov (.t 8)⟩] [0, 1, 5, 6, 7, 8]
@[simp] theorem sC_int_c1_eq : aw PP sC_int_c1 K env H = awOps PP [⟨some 5, none, .mov (.t 0)⟩, ⟨some 6, none, .mov (.t 1)⟩, ⟨some 7, none, .call (.c (.fn (.func 40) [] [])) [.t 5, .t 6]⟩, ⟨some 8, none, .bin (.geq) (.t 7) (.c (.int (.i64) 0))⟩, ⟨some 4, none, .mov (.t 8)⟩] (regK K [0, 1, 5, 6, 7, 8]) (panK K) env H := aw_reg _ _
def sC_int_c2 : AC := .seq sC_int_c1 .ret
@[simp] theorem sC_int_c2_eq : aw PP sC_int_c2 K env H = aw PP sC_int_c1 (seqK PP .ret K) env H := aw_seq sC_int_c1 .ret
def sC_int_c3 : AC := .seq sC_int_c0 sC_int_c2
@[simp] theorem sC_int_c3_eq : aw PP sC_int_c3 K env H = aw PP sC_int_c0 (seqK PP sC_int_c2 K) env H := aw_seq sC_int_c0 sC_int_c2
def sC_int_ac : AC := sC_int_c3
@[simp] theorem sC_int_ac_eq : aw PP sC_int_ac K env H = aw PP sC_int_c3 K env H := Eq.trans rfl rfl
def sC_int_rs : List ARV := [.tmp 4]
abbrev sC_int_id : Nat := 23
theorem sC_int_comp : compF PP sC_int_kl sC_int_ow 2 Tryd.f23 = some (sC_int_ac, sC_int_rs) := by kernel_rfl
theorem sC_int_enter {args : List AV} {H : AHeap} {post : ARes → AHeap → Prop} (ha : args.length = 2) (h : aw PP sC_int_ac (retK sC_int_rs post) (argEnv 0 args) H) : ACalls PP sC_int_id args H post := .enterF Tryd.func23 PP_mix sC_int_comp ha h

/-! emendate.grammar.Valid$1 -/
def grammar_Valid_1_kl : Nat → List Nat
  | 0 => [3]
  | 1 => [0, 1, 4, 5, 6, 7, 8, 9, 10, 11, 12, 13, 14, 15, 16]
  | _ => []
def grammar_Valid_1_ow : Nat → Nat → Bool := fun _ _ => false
def grammar_Valid_1_c0 : AC := .reg [⟨some 3, none, .mov (.c (.bool false))⟩] [3]
@[simp] theorem grammar_Valid_1_c0_eq : aw PP grammar_Valid_1_c0 K env H = awOps PP [⟨some 3, none, .mov (.c (.bool false))⟩] (regK K [3]) (panK K) env H := aw_reg _ _
def grammar_Valid_1_c1 : AC := .reg [⟨some 4, none, .mov (.t 0)⟩, ⟨some 5, none, .fa 0 0 (.t 1)⟩, ⟨some 6, none, .ld false 1 (.t 5)⟩, ⟨some 7, none, .lenl (.t 6)⟩, ⟨some 8, none, .bin (.geq) (.t 4) (.t 7)⟩, ⟨some 9, none, .mov (.t 8)⟩, ⟨some 10, some (9, false), .mov (.t 0)⟩, ⟨some 11, some (9, false), .fa 1 1 (.t 1)⟩, ⟨some 12, some (9, false), .ld false 1 (.t 11)⟩, ⟨some 13, some (9, false), .lenl (.t 12)⟩, ⟨some 14, some (9, false), .neg (.t 13)⟩, ⟨some 15, some (9, false), .bin (.lss) (.t 10) (.t 14)⟩, ⟨some 16, none, .pick (.t 9) (.c (.bool true)) (.t 15)⟩, ⟨some 3, none, .mov (.t 16)⟩] [0, 1, 4, 5, 6, 7, 8, 9, 10, 11, 12, 13, 14, 15, 16]
@[simp] theorem grammar_Valid_1_c1_eq : aw PP grammar_Valid_1_c1 K env H = awOps PP [⟨some 4, none, .mov (.t 0)⟩, ⟨some 5, none, .fa 0 0 (.t 1)⟩, ⟨some 6, none, .ld false 1 (.t 5)⟩, ⟨some 7, none, .lenl (.t 6)⟩, ⟨some 8, none, .bin (.geq) (.t 4) (.t 7)⟩, ⟨some 9, none, .mov (.t 8)⟩, ⟨some 10, some (9, false), .mov (.t 0)⟩, ⟨some 11, some (9, false), .fa 1 1 (.t 1)⟩, ⟨some 12, some (9, false), .ld false 1 (.t 11)⟩, ⟨some 13, some (9, false), .lenl (.t 12)⟩, ⟨some 14, some (9, false), .neg (.t 13)⟩, ⟨some 15, some (9, false), .bin (.lss) (.t 10) (.t 14)⟩, ⟨some 16, none, .pick (.t 9) (.c (.bool true)) (.t 15)⟩, ⟨some 3, none, .mov (.t 16)⟩] (regK K [0, 1, 4, 5, 6, 7, 8, 9, 10, 11, 12, 13, 14, 15, 16]) (panK K) env H := aw_reg _ _
def grammar_Valid_1_c2 : AC := .seq grammar_Valid_1_c1 .ret
@[simp] theorem grammar_Valid_1_c2_eq : aw PP grammar_Valid_1_c2 K env H = aw PP grammar_Valid_1_c1 (seqK PP .ret K) env H := aw_seq grammar_Valid_1_c1 .ret
def grammar_Valid_1_c3 : AC := .seq grammar_Valid_1_c0 grammar_Valid_1_c2
@[simp] theorem grammar_Valid_1_c3_eq : aw PP grammar_Valid_1_c3 K env H = aw PP grammar_Valid_1_c0 (seqK PP grammar_Valid_1_c2 K) env H := aw_seq grammar_Valid_1_c0 grammar_Valid_1_c2
def grammar_Valid_1_ac : AC := grammar_Valid_1_c3
@[simp] theorem grammar_Valid_1_ac_eq : aw PP grammar_Valid_1_ac K env H = aw PP grammar_Valid_1_c3 K env H := Eq.trans rfl rfl
def grammar_Valid_1_rs : List ARV := [.tmp 3]
abbrev grammar_Valid_1_id : Nat := 24
theorem grammar_Valid_1_comp : compF PP grammar_Valid_1_kl grammar_Valid_1_ow 2 Tryd.f24 = some (grammar_Valid_1_ac, grammar_Valid_1_rs) := by kernel_rfl
theorem grammar_Valid_1_enter {args : List AV} {H : AHeap} {post : ARes → AHeap → Prop} (ha : args.length = 2) (h : aw PP grammar_Valid_1_ac (retK grammar_Valid_1_rs post) (argEnv 0 args) H) : ACalls PP grammar_Valid_1_id args H post := .enterF Tryd.func24 PP_mix grammar_Valid_1_comp ha h

/-! emendate.emendateref18.names -/
def ref18_names_kl : Nat → List Nat
  | 0 => [4]
  | 2 => [0, 8, 9, 10]
  | 3 => [1, 11, 12, 13]
  | 5 => [14, 15, 16]
  | 6 => [7, 18, 19, 28]
  | 7 => [17, 20, 21, 22, 23, 24]
  | 8 => [5, 6, 25]
  | 9 => [25]
  | 10 => [26, 27]
  | 11 => [29, 30, 39]
  | 12 => [28, 31, 32, 33, 34, 35, 36, 37, 38]
  | 13 => [5, 6, 7, 39]
  | 14 => [5, 6, 17]
  | _ => []
def ref18_names_ow : Nat → Nat → Bool := fun _ _ => false
def ref18_names_c0 : AC := .reg [⟨some 4, none, .mov (.c (.bool false))⟩] [4]
@[simp] theorem ref18_names_c0_eq : aw PP ref18_names_c0 K env H = awOps PP [⟨some 4, none, .mov (.c (.bool false))⟩] (regK K [4]) (panK K) env H := aw_reg _ _
def ref18_names_c1 : AC := .reg [⟨some 5, none, .mov (.c (.nils))⟩] []
@[simp] theorem ref18_names_c1_eq : aw PP ref18_names_c1 K env H = awOps PP [⟨some 5, none, .mov (.c (.nils))⟩] (regK K []) (panK K) env H := aw_reg _ _
def ref18_names_c2 : AC := .reg [⟨some 8, none, .mov (.t 5)⟩, ⟨some 9, none, .mov (.t 0)⟩, ⟨some 10, none, .app 9 1 16 (.t 8) (.t 9)⟩, ⟨some 5, none, .mov (.t 10)⟩] [0, 8, 9, 10]
@[simp] theorem ref18_names_c2_eq : aw PP ref18_names_c2 K env H = awOps PP [⟨some 8, none, .mov (.t 5)⟩, ⟨some 9, none, .mov (.t 0)⟩, ⟨some 10, none, .app 9 1 16 (.t 8) (.t 9)⟩, ⟨some 5, none, .mov (.t 10)⟩] (regK K [0, 8, 9, 10]) (panK K) env H := aw_reg _ _
def ref18_names_c3 : AC := .reg [⟨some 11, none, .mov (.t 5)⟩, ⟨some 12, none, .mov (.t 1)⟩, ⟨some 13, none, .app 9 1 16 (.t 11) (.t 12)⟩, ⟨some 5, none, .mov (.t 13)⟩] [1, 11, 12, 13]
@[simp] theorem ref18_names_c3_eq : aw PP ref18_names_c3 K env H = awOps PP [⟨some 11, none, .mov (.t 5)⟩, ⟨some 12, none, .mov (.t 1)⟩, ⟨some 13, none, .app 9 1 16 (.t 11) (.t 12)⟩, ⟨some 5, none, .mov (.t 13)⟩] (regK K [1, 11, 12, 13]) (panK K) env H := aw_reg _ _
def ref18_names_c4 : AC := .reg [⟨some 6, none, .mov (.c (.int (.i64) 0))⟩] []
@[simp] theorem ref18_names_c4_eq : aw PP ref18_names_c4 K env H = awOps PP [⟨some 6, none, .mov (.c (.int (.i64) 0))⟩] (regK K []) (panK K) env H := aw_reg _ _
def ref18_names_c5 : AC := .reg [⟨some 14, none, .mov (.t 6)⟩, ⟨some 15, none, .mov (.t 5)⟩, ⟨some 16, none, .lenl (.t 15)⟩, ⟨some 17, none, .bin (.lss) (.t 14) (.t 16)⟩] [14, 15, 16]
@[simp] theorem ref18_names_c5_eq : aw PP ref18_names_c5 K env H = awOps PP [⟨some 14, none, .mov (.t 6)⟩, ⟨some 15, none, .mov (.t 5)⟩, ⟨some 16, none, .lenl (.t 15)⟩, ⟨some 17, none, .bin (.lss) (.t 14) (.t 16)⟩] (regK K [14, 15, 16]) (panK K) env H := aw_reg _ _
def ref18_names_c6 : AC := .cond (.t 17) .skip (.exit 0)
@[simp] theorem ref18_names_c6_eq : aw PP ref18_names_c6 K env H = condQ PP (Opd.ev env (.t 17)) .skip (.exit 0) K env H := aw_cond _ .skip (.exit 0)
def ref18_names_c7 : AC := .seq ref18_names_c5 ref18_names_c6
@[simp] theorem ref18_names_c7_eq : aw PP ref18_names_c7 K env H = aw PP ref18_names_c5 (seqK PP ref18_names_c6 K) env H := aw_seq ref18_names_c5 ref18_names_c6
def ref18_names_c8 : AC := .reg [⟨some 20, none, .mov (.t 5)⟩, ⟨some 21, none, .mov (.t 6)⟩, ⟨some 22, none, .ixa 1 (.t 20) (.t 21)⟩, ⟨some 23, none, .ld false 1 (.t 22)⟩, ⟨some 24, none, .call (.c (.fn (.func 41) [] [])) [.t 23]⟩, ⟨some 25, none, .not (.t 24)⟩] [17, 20, 21, 22, 23, 24]
@[simp] theorem ref18_names_c8_eq : aw PP ref18_names_c8 K env H = awOps PP [⟨some 20, none, .mov (.t 5)⟩, ⟨some 21, none, .mov (.t 6)⟩, ⟨some 22, none, .ixa 1 (.t 20) (.t 21)⟩, ⟨some 23, none, .ld false 1 (.t 22)⟩, ⟨some 24, none, .call (.c (.fn (.func 41) [] [])) [.t 23]⟩, ⟨some 25, none, .not (.t 24)⟩] (regK K [17, 20, 21, 22, 23, 24]) (panK K) env H := aw_reg _ _
def ref18_names_c9 : AC := .reg [⟨some 4, none, .mov (.c (.bool false))⟩] [5, 6, 25]
@[simp] theorem ref18_names_c9_eq : aw PP ref18_names_c9 K env H = awOps PP [⟨some 4, none, .mov (.c (.bool false))⟩] (regK K [5, 6, 25]) (panK K) env H := aw_reg _ _
def ref18_names_c10 : AC := .seq ref18_names_c9 .ret
@[simp] theorem ref18_names_c10_eq : aw PP ref18_names_c10 K env H = aw PP ref18_names_c9 (seqK PP .ret K) env H := aw_seq ref18_names_c9 .ret
def ref18_names_c11 : AC := .cond (.t 25) ref18_names_c10 .skip
@[simp] theorem ref18_names_c11_eq : aw PP ref18_names_c11 K env H = condQ PP (Opd.ev env (.t 25)) ref18_names_c10 .skip K env H := aw_cond _ ref18_names_c10 .skip
def ref18_names_c12 : AC := .seq ref18_names_c8 ref18_names_c11
@[simp] theorem ref18_names_c12_eq : aw PP ref18_names_c12 K env H = aw PP ref18_names_c8 (seqK PP ref18_names_c11 K) env H := aw_seq ref18_names_c8 ref18_names_c11
def ref18_names_c13 : AC := .reg [⟨some 7, none, .mov (.c (.int (.i64) 0))⟩] [25]
@[simp] theorem ref18_names_c13_eq : aw PP ref18_names_c13 K env H = awOps PP [⟨some 7, none, .mov (.c (.int (.i64) 0))⟩] (regK K [25]) (panK K) env H := aw_reg _ _
def ref18_names_c14 : AC := .reg [⟨some 26, none, .mov (.t 7)⟩, ⟨some 27, none, .mov (.t 6)⟩, ⟨some 28, none, .bin (.lss) (.t 26) (.t 27)⟩] [26, 27]
@[simp] theorem ref18_names_c14_eq : aw PP ref18_names_c14 K env H = awOps PP [⟨some 26, none, .mov (.t 7)⟩, ⟨some 27, none, .mov (.t 6)⟩, ⟨some 28, none, .bin (.lss) (.t 26) (.t 27)⟩] (regK K [26, 27]) (panK K) env H := aw_reg _ _
def ref18_names_c15 : AC := .cond (.t 28) .skip (.exit 2)
@[simp] theorem ref18_names_c15_eq : aw PP ref18_names_c15 K env H = condQ PP (Opd.ev env (.t 28)) .skip (.exit 2) K env H := aw_cond _ .skip (.exit 2)
def ref18_names_c16 : AC := .seq ref18_names_c14 ref18_names_c15
@[simp] theorem ref18_names_c16_eq : aw PP ref18_names_c16 K env H = aw PP ref18_names_c14 (seqK PP ref18_names_c15 K) env H := aw_seq ref18_names_c14 ref18_names_c15
def ref18_names_c17_ops : List (AI × List Nat) := [(⟨some 31, none, .mov (.t 5)⟩, []), (⟨some 32, none, .mov (.t 7)⟩, []), (⟨some 33, none, .ixa 1 (.t 31) (.t 32)⟩, [0, 1]), (⟨some 34, none, .ld false 1 (.t 33)⟩, [2]), (⟨some 35, none, .mov (.t 5)⟩, []), (⟨some 36, none, .mov (.t 6)⟩, []), (⟨some 37, none, .ixa 1 (.t 35) (.t 36)⟩, [4, 5]), (⟨some 38, none, .ld false 1 (.t 37)⟩, [6]), (⟨some 39, none, .bin (.eql) (.t 34) (.t 38)⟩, [3, 7])]
def ref18_names_c17 : AC := .dreg ref18_names_c17_ops [28, 31, 32, 33, 34, 35, 36, 37, 38]
theorem ref18_names_c17_ok : lexOK ref18_names_c17_ops (fun i => [].contains i) = true := by kernel_rfl
theorem ref18_names_c17_lex (h : awLex PP (fun i => [].contains i) (regK K [28, 31, 32, 33, 34, 35, 36, 37, 38]) (panK K) [(0, ⟨some 31, none, .mov (.t 5)⟩), (1, ⟨some 32, none, .mov (.t 7)⟩), (2, ⟨some 33, none, .ixa 1 (.t 31) (.t 32)⟩), (3, ⟨some 34, none, .ld false 1 (.t 33)⟩), (4, ⟨some 35, none, .mov (.t 5)⟩), (5, ⟨some 36, none, .mov (.t 6)⟩), (6, ⟨some 37, none, .ixa 1 (.t 35) (.t 36)⟩), (7, ⟨some 38, none, .ld false 1 (.t 37)⟩), (8, ⟨some 39, none, .bin (.eql) (.t 34) (.t 38)⟩)] env H) : aw PP ref18_names_c17 K env H := aw_dreg_lex _ ref18_names_c17_ok h
def ref18_names_c18 : AC := .reg [⟨some 4, none, .mov (.c (.bool false))⟩] [5, 6, 7, 39]
@[simp] theorem ref18_names_c18_eq : aw PP ref18_names_c18 K env H = awOps PP [⟨some 4, none, .mov (.c (.bool false))⟩] (regK K [5, 6, 7, 39]) (panK K) env H := aw_reg _ _
def ref18_names_c19 : AC := .seq ref18_names_c18 .ret
@[simp] theorem ref18_names_c19_eq : aw PP ref18_names_c19 K env H = aw PP ref18_names_c18 (seqK PP .ret K) env H := aw_seq ref18_names_c18 .ret
def ref18_names_c20 : AC := .cond (.t 39) ref18_names_c19 .skip
@[simp] theorem ref18_names_c20_eq : aw PP ref18_names_c20 K env H = condQ PP (Opd.ev env (.t 39)) ref18_names_c19 .skip K env H := aw_cond _ ref18_names_c19 .skip
def ref18_names_c21 : AC := .seq ref18_names_c17 ref18_names_c20
@[simp] theorem ref18_names_c21_eq : aw PP ref18_names_c21 K env H = aw PP ref18_names_c17 (seqK PP ref18_names_c20 K) env H := aw_seq ref18_names_c17 ref18_names_c20
def ref18_names_c22 : AC := .block 3 ref18_names_c21
@[simp] theorem ref18_names_c22_eq : aw PP ref18_names_c22 K env H = aw PP ref18_names_c21 (blockK 3 K) env H := aw_block _ ref18_names_c21
def ref18_names_c23 : AC := .reg [⟨some 29, none, .mov (.t 7)⟩, ⟨some 30, none, .bin (.add) (.t 29) (.c (.int (.i64) 1))⟩, ⟨some 7, none, .mov (.t 30)⟩] [29, 30, 39]
@[simp] theorem ref18_names_c23_eq : aw PP ref18_names_c23 K env H = awOps PP [⟨some 29, none, .mov (.t 7)⟩, ⟨some 30, none, .bin (.add) (.t 29) (.c (.int (.i64) 1))⟩, ⟨some 7, none, .mov (.t 30)⟩] (regK K [29, 30, 39]) (panK K) env H := aw_reg _ _
def ref18_names_c24 : AC := .seq ref18_names_c22 ref18_names_c23
@[simp] theorem ref18_names_c24_eq : aw PP ref18_names_c24 K env H = aw PP ref18_names_c22 (seqK PP ref18_names_c23 K) env H := aw_seq ref18_names_c22 ref18_names_c23
def ref18_names_c25 : AC := .seq ref18_names_c16 ref18_names_c24
@[simp] theorem ref18_names_c25_eq : aw PP ref18_names_c25 K env H = aw PP ref18_names_c16 (seqK PP ref18_names_c24 K) env H := aw_seq ref18_names_c16 ref18_names_c24
def ref18_names_c26 : AC := .loop ref18_names_c25
def ref18_names_c27 : AC := .block 2 ref18_names_c26
@[simp] theorem ref18_names_c27_eq : aw PP ref18_names_c27 K env H = aw PP ref18_names_c26 (blockK 2 K) env H := aw_block _ ref18_names_c26
def ref18_names_c28 : AC := .seq ref18_names_c13 ref18_names_c27
@[simp] theorem ref18_names_c28_eq : aw PP ref18_names_c28 K env H = aw PP ref18_names_c13 (seqK PP ref18_names_c27 K) env H := aw_seq ref18_names_c13 ref18_names_c27
def ref18_names_c29 : AC := .seq ref18_names_c12 ref18_names_c28
@[simp] theorem ref18_names_c29_eq : aw PP ref18_names_c29 K env H = aw PP ref18_names_c12 (seqK PP ref18_names_c28 K) env H := aw_seq ref18_names_c12 ref18_names_c28
def ref18_names_c30 : AC := .block 1 ref18_names_c29
@[simp] theorem ref18_names_c30_eq : aw PP ref18_names_c30 K env H = aw PP ref18_names_c29 (blockK 1 K) env H := aw_block _ ref18_names_c29
def ref18_names_c31 : AC := .reg [⟨some 18, none, .mov (.t 6)⟩, ⟨some 19, none, .bin (.add) (.t 18) (.c (.int (.i64) 1))⟩, ⟨some 6, none, .mov (.t 19)⟩] [7, 18, 19, 28]
@[simp] theorem ref18_names_c31_eq : aw PP ref18_names_c31 K env H = awOps PP [⟨some 18, none, .mov (.t 6)⟩, ⟨some 19, none, .bin (.add) (.t 18) (.c (.int (.i64) 1))⟩, ⟨some 6, none, .mov (.t 19)⟩] (regK K [7, 18, 19, 28]) (panK K) env H := aw_reg _ _
def ref18_names_c32 : AC := .seq ref18_names_c30 ref18_names_c31
@[simp] theorem ref18_names_c32_eq : aw PP ref18_names_c32 K env H = aw PP ref18_names_c30 (seqK PP ref18_names_c31 K) env H := aw_seq ref18_names_c30 ref18_names_c31
def ref18_names_c33 : AC := .seq ref18_names_c7 ref18_names_c32
@[simp] theorem ref18_names_c33_eq : aw PP ref18_names_c33 K env H = aw PP ref18_names_c7 (seqK PP ref18_names_c32 K) env H := aw_seq ref18_names_c7 ref18_names_c32
def ref18_names_c34 : AC := .loop ref18_names_c33
def ref18_names_c35 : AC := .block 0 ref18_names_c34
@[simp] theorem ref18_names_c35_eq : aw PP ref18_names_c35 K env H = aw PP ref18_names_c34 (blockK 0 K) env H := aw_block _ ref18_names_c34
def ref18_names_c36 : AC := .seq ref18_names_c4 ref18_names_c35
@[simp] theorem ref18_names_c36_eq : aw PP ref18_names_c36 K env H = aw PP ref18_names_c4 (seqK PP ref18_names_c35 K) env H := aw_seq ref18_names_c4 ref18_names_c35
def ref18_names_c37 : AC := .reg [⟨some 4, none, .mov (.c (.bool true))⟩] [5, 6, 17]
@[simp] theorem ref18_names_c37_eq : aw PP ref18_names_c37 K env H = awOps PP [⟨some 4, none, .mov (.c (.bool true))⟩] (regK K [5, 6, 17]) (panK K) env H := aw_reg _ _
def ref18_names_c38 : AC := .seq ref18_names_c37 .ret
@[simp] theorem ref18_names_c38_eq : aw PP ref18_names_c38 K env H = aw PP ref18_names_c37 (seqK PP .ret K) env H := aw_seq ref18_names_c37 .ret
def ref18_names_c39 : AC := .seq ref18_names_c36 ref18_names_c38
@[simp] theorem ref18_names_c39_eq : aw PP ref18_names_c39 K env H = aw PP ref18_names_c36 (seqK PP ref18_names_c38 K) env H := aw_seq ref18_names_c36 ref18_names_c38
def ref18_names_c40 : AC := .seq ref18_names_c3 ref18_names_c39
@[simp] theorem ref18_names_c40_eq : aw PP ref18_names_c40 K env H = aw PP ref18_names_c3 (seqK PP ref18_names_c39 K) env H := aw_seq ref18_names_c3 ref18_names_c39
def ref18_names_c41 : AC := .seq ref18_names_c2 ref18_names_c40
@[simp] theorem ref18_names_c41_eq : aw PP ref18_names_c41 K env H = aw PP ref18_names_c2 (seqK PP ref18_names_c40 K) env H := aw_seq ref18_names_c2 ref18_names_c40
def ref18_names_c42 : AC := .seq ref18_names_c1 ref18_names_c41
@[simp] theorem ref18_names_c42_eq : aw PP ref18_names_c42 K env H = aw PP ref18_names_c1 (seqK PP ref18_names_c41 K) env H := aw_seq ref18_names_c1 ref18_names_c41
def ref18_names_c43 : AC := .seq ref18_names_c0 ref18_names_c42
@[simp] theorem ref18_names_c43_eq : aw PP ref18_names_c43 K env H = aw PP ref18_names_c0 (seqK PP ref18_names_c42 K) env H := aw_seq ref18_names_c0 ref18_names_c42
def ref18_names_ac : AC := ref18_names_c43
@[simp] theorem ref18_names_ac_eq : aw PP ref18_names_ac K env H = aw PP ref18_names_c43 K env H := Eq.trans rfl rfl
def ref18_names_rs : List ARV := [.tmp 4]
abbrev ref18_names_id : Nat := 25
theorem ref18_names_comp : compF PP ref18_names_kl ref18_names_ow 2 Tryd.f25 = some (ref18_names_ac, ref18_names_rs) := by kernel_rfl
theorem ref18_names_enter {args : List AV} {H : AHeap} {post : ARes → AHeap → Prop} (ha : args.length = 2) (h : aw PP ref18_names_ac (retK ref18_names_rs post) (argEnv 0 args) H) : ACalls PP ref18_names_id args H post := .enterF Tryd.func25 PP_mix ref18_names_comp ha h

/-! slices.Equal[[]string,string] -/
def sl_Equal_string_kl : Nat → List Nat
  | 0 => [4]
  | 1 => [6, 7, 8, 9]
  | 2 => [0, 1, 10]
  | 3 => [10, 11]
  | 5 => [14, 15]
  | 6 => [5, 16, 17, 18, 19, 20, 21, 22, 23]
  | 7 => [0, 1, 12, 13, 24]
  | 8 => [24, 25]
  | 9 => [0, 1, 12, 13, 14]
  | _ => []
def sl_Equal_string_ow : Nat → Nat → Bool := fun _ _ => false
def sl_Equal_string_c0 : AC := .reg [⟨some 4, none, .mov (.c (.bool false))⟩] [4]
@[simp] theorem sl_Equal_string_c0_eq : aw PP sl_Equal_string_c0 K env H = awOps PP [⟨some 4, none, .mov (.c (.bool false))⟩] (regK K [4]) (panK K) env H := aw_reg _ _
def sl_Equal_string_c1 : AC := .reg [⟨some 6, none, .mov (.t 0)⟩, ⟨some 7, none, .lenl (.t 6)⟩, ⟨some 8, none, .mov (.t 1)⟩, ⟨some 9, none, .lenl (.t 8)⟩, ⟨some 10, none, .bin (.neq) (.t 7) (.t 9)⟩] [6, 7, 8, 9]
@[simp] theorem sl_Equal_string_c1_eq : aw PP sl_Equal_string_c1 K env H = awOps PP [⟨some 6, none, .mov (.t 0)⟩, ⟨some 7, none, .lenl (.t 6)⟩, ⟨some 8, none, .mov (.t 1)⟩, ⟨some 9, none, .lenl (.t 8)⟩, ⟨some 10, none, .bin (.neq) (.t 7) (.t 9)⟩] (regK K [6, 7, 8, 9]) (panK K) env H := aw_reg _ _
def sl_Equal_string_c2 : AC := .reg [⟨some 4, none, .mov (.c (.bool false))⟩] [0, 1, 10]
@[simp] theorem sl_Equal_string_c2_eq : aw PP sl_Equal_string_c2 K env H = awOps PP [⟨some 4, none, .mov (.c (.bool false))⟩] (regK K [0, 1, 10]) (panK K) env H := aw_reg _ _
def sl_Equal_string_c3 : AC := .seq sl_Equal_string_c2 .ret
@[simp] theorem sl_Equal_string_c3_eq : aw PP sl_Equal_string_c3 K env H = aw PP sl_Equal_string_c2 (seqK PP .ret K) env H := aw_seq sl_Equal_string_c2 .ret
def sl_Equal_string_c4 : AC := .cond (.t 10) sl_Equal_string_c3 .skip
@[simp] theorem sl_Equal_string_c4_eq : aw PP sl_Equal_string_c4 K env H = condQ PP (Opd.ev env (.t 10)) sl_Equal_string_c3 .skip K env H := aw_cond _ sl_Equal_string_c3 .skip
def sl_Equal_string_c5 : AC := .seq sl_Equal_string_c1 sl_Equal_string_c4
@[simp] theorem sl_Equal_string_c5_eq : aw PP sl_Equal_string_c5 K env H = aw PP sl_Equal_string_c1 (seqK PP sl_Equal_string_c4 K) env H := aw_seq sl_Equal_string_c1 sl_Equal_string_c4
def sl_Equal_string_c6 : AC := .reg [⟨some 11, none, .mov (.t 0)⟩, ⟨some 12, none, .lenl (.t 11)⟩, ⟨some 13, none, .mov (.c (.int (.i64) 0))⟩] [10, 11]
@[simp] theorem sl_Equal_string_c6_eq : aw PP sl_Equal_string_c6 K env H = awOps PP [⟨some 11, none, .mov (.t 0)⟩, ⟨some 12, none, .lenl (.t 11)⟩, ⟨some 13, none, .mov (.c (.int (.i64) 0))⟩] (regK K [10, 11]) (panK K) env H := aw_reg _ _
def sl_Equal_string_c7 : AC := .reg [⟨some 14, none, .bin (.lss) (.t 13) (.t 12)⟩] []
@[simp] theorem sl_Equal_string_c7_eq : aw PP sl_Equal_string_c7 K env H = awOps PP [⟨some 14, none, .bin (.lss) (.t 13) (.t 12)⟩] (regK K []) (panK K) env H := aw_reg _ _
def sl_Equal_string_c8 : AC := .cond (.t 14) .skip (.exit 0)
@[simp] theorem sl_Equal_string_c8_eq : aw PP sl_Equal_string_c8 K env H = condQ PP (Opd.ev env (.t 14)) .skip (.exit 0) K env H := aw_cond _ .skip (.exit 0)
def sl_Equal_string_c9 : AC := .reg [⟨some 15, none, .mov (.t 13)⟩, ⟨some 5, none, .mov (.t 15)⟩] [14, 15]
@[simp] theorem sl_Equal_string_c9_eq : aw PP sl_Equal_string_c9 K env H = awOps PP [⟨some 15, none, .mov (.t 13)⟩, ⟨some 5, none, .mov (.t 15)⟩] (regK K [14, 15]) (panK K) env H := aw_reg _ _
def sl_Equal_string_c10_ops : List (AI × List Nat) := [(⟨some 16, none, .mov (.t 0)⟩, []), (⟨some 17, none, .mov (.t 5)⟩, []), (⟨some 18, none, .ixa 1 (.t 16) (.t 17)⟩, [0, 1]), (⟨some 19, none, .ld false 1 (.t 18)⟩, [2]), (⟨some 20, none, .mov (.t 1)⟩, []), (⟨some 21, none, .mov (.t 5)⟩, []), (⟨some 22, none, .ixa 1 (.t 20) (.t 21)⟩, [4, 5]), (⟨some 23, none, .ld false 1 (.t 22)⟩, [6]), (⟨some 24, none, .bin (.neq) (.t 19) (.t 23)⟩, [3, 7])]
def sl_Equal_string_c10 : AC := .dreg sl_Equal_string_c10_ops [5, 16, 17, 18, 19, 20, 21, 22, 23]
theorem sl_Equal_string_c10_ok : lexOK sl_Equal_string_c10_ops (fun i => [].contains i) = true := by kernel_rfl
theorem sl_Equal_string_c10_lex (h : awLex PP (fun i => [].contains i) (regK K [5, 16, 17, 18, 19, 20, 21, 22, 23]) (panK K) [(0, ⟨some 16, none, .mov (.t 0)⟩), (1, ⟨some 17, none, .mov (.t 5)⟩), (2, ⟨some 18, none, .ixa 1 (.t 16) (.t 17)⟩), (3, ⟨some 19, none, .ld false 1 (.t 18)⟩), (4, ⟨some 20, none, .mov (.t 1)⟩), (5, ⟨some 21, none, .mov (.t 5)⟩), (6, ⟨some 22, none, .ixa 1 (.t 20) (.t 21)⟩), (7, ⟨some 23, none, .ld false 1 (.t 22)⟩), (8, ⟨some 24, none, .bin (.neq) (.t 19) (.t 23)⟩)] env H) : aw PP sl_Equal_string_c10 K env H := aw_dreg_lex _ sl_Equal_string_c10_ok h
def sl_Equal_string_c11 : AC := .reg [⟨some 4, none, .mov (.c (.bool false))⟩] [0, 1, 12, 13, 24]
@[simp] theorem sl_Equal_string_c11_eq : aw PP sl_Equal_string_c11 K env H = awOps PP [⟨some 4, none, .mov (.c (.bool false))⟩] (regK K [0, 1, 12, 13, 24]) (panK K) env H := aw_reg _ _
def sl_Equal_string_c12 : AC := .seq sl_Equal_string_c11 .ret
@[simp] theorem sl_Equal_string_c12_eq : aw PP sl_Equal_string_c12 K env H = aw PP sl_Equal_string_c11 (seqK PP .ret K) env H := aw_seq sl_Equal_string_c11 .ret
def sl_Equal_string_c13 : AC := .cond (.t 24) sl_Equal_string_c12 .skip
@[simp] theorem sl_Equal_string_c13_eq : aw PP sl_Equal_string_c13 K env H = condQ PP (Opd.ev env (.t 24)) sl_Equal_string_c12 .skip K env H := aw_cond _ sl_Equal_string_c12 .skip
def sl_Equal_string_c14 : AC := .seq sl_Equal_string_c10 sl_Equal_string_c13
@[simp] theorem sl_Equal_string_c14_eq : aw PP sl_Equal_string_c14 K env H = aw PP sl_Equal_string_c10 (seqK PP sl_Equal_string_c13 K) env H := aw_seq sl_Equal_string_c10 sl_Equal_string_c13
def sl_Equal_string_c15 : AC := .seq sl_Equal_string_c9 sl_Equal_string_c14
@[simp] theorem sl_Equal_string_c15_eq : aw PP sl_Equal_string_c15 K env H = aw PP sl_Equal_string_c9 (seqK PP sl_Equal_string_c14 K) env H := aw_seq sl_Equal_string_c9 sl_Equal_string_c14
def sl_Equal_string_c16 : AC := .block 1 sl_Equal_string_c15
@[simp] theorem sl_Equal_string_c16_eq : aw PP sl_Equal_string_c16 K env H = aw PP sl_Equal_string_c15 (blockK 1 K) env H := aw_block _ sl_Equal_string_c15
def sl_Equal_string_c17 : AC := .reg [⟨some 25, none, .bin (.add) (.t 13) (.c (.int (.i64) 1))⟩, ⟨some 13, none, .mov (.t 25)⟩] [24, 25]
@[simp] theorem sl_Equal_string_c17_eq : aw PP sl_Equal_string_c17 K env H = awOps PP [⟨some 25, none, .bin (.add) (.t 13) (.c (.int (.i64) 1))⟩, ⟨some 13, none, .mov (.t 25)⟩] (regK K [24, 25]) (panK K) env H := aw_reg _ _
def sl_Equal_string_c18 : AC := .seq sl_Equal_string_c16 sl_Equal_string_c17
@[simp] theorem sl_Equal_string_c18_eq : aw PP sl_Equal_string_c18 K env H = aw PP sl_Equal_string_c16 (seqK PP sl_Equal_string_c17 K) env H := aw_seq sl_Equal_string_c16 sl_Equal_string_c17
def sl_Equal_string_c19 : AC := .seq sl_Equal_string_c8 sl_Equal_string_c18
@[simp] theorem sl_Equal_string_c19_eq : aw PP sl_Equal_string_c19 K env H = aw PP sl_Equal_string_c8 (seqK PP sl_Equal_string_c18 K) env H := aw_seq sl_Equal_string_c8 sl_Equal_string_c18
def sl_Equal_string_c20 : AC := .seq sl_Equal_string_c7 sl_Equal_string_c19
@[simp] theorem sl_Equal_string_c20_eq : aw PP sl_Equal_string_c20 K env H = aw PP sl_Equal_string_c7 (seqK PP sl_Equal_string_c19 K) env H := aw_seq sl_Equal_string_c7 sl_Equal_string_c19
def sl_Equal_string_c21 : AC := .loop sl_Equal_string_c20
def sl_Equal_string_c22 : AC := .block 0 sl_Equal_string_c21
@[simp] theorem sl_Equal_string_c22_eq : aw PP sl_Equal_string_c22 K env H = aw PP sl_Equal_string_c21 (blockK 0 K) env H := aw_block _ sl_Equal_string_c21
def sl_Equal_string_c23 : AC := .seq sl_Equal_string_c6 sl_Equal_string_c22
@[simp] theorem sl_Equal_string_c23_eq : aw PP sl_Equal_string_c23 K env H = aw PP sl_Equal_string_c6 (seqK PP sl_Equal_string_c22 K) env H := aw_seq sl_Equal_string_c6 sl_Equal_string_c22
def sl_Equal_string_c24 : AC := .reg [⟨some 4, none, .mov (.c (.bool true))⟩] [0, 1, 12, 13, 14]
@[simp] theorem sl_Equal_string_c24_eq : aw PP sl_Equal_string_c24 K env H = awOps PP [⟨some 4, none, .mov (.c (.bool true))⟩] (regK K [0, 1, 12, 13, 14]) (panK K) env H := aw_reg _ _
def sl_Equal_string_c25 : AC := .seq sl_Equal_string_c24 .ret
@[simp] theorem sl_Equal_string_c25_eq : aw PP sl_Equal_string_c25 K env H = aw PP sl_Equal_string_c24 (seqK PP .ret K) env H := aw_seq sl_Equal_string_c24 .ret
def sl_Equal_string_c26 : AC := .seq sl_Equal_string_c23 sl_Equal_string_c25
@[simp] theorem sl_Equal_string_c26_eq : aw PP sl_Equal_string_c26 K env H = aw PP sl_Equal_string_c23 (seqK PP sl_Equal_string_c25 K) env H := aw_seq sl_Equal_string_c23 sl_Equal_string_c25
def sl_Equal_string_c27 : AC := .seq sl_Equal_string_c5 sl_Equal_string_c26
@[simp] theorem sl_Equal_string_c27_eq : aw PP sl_Equal_string_c27 K env H = aw PP sl_Equal_string_c5 (seqK PP sl_Equal_string_c26 K) env H := aw_seq sl_Equal_string_c5 sl_Equal_string_c26
def sl_Equal_string_c28 : AC := .seq sl_Equal_string_c0 sl_Equal_string_c27
@[simp] theorem sl_Equal_string_c28_eq : aw PP sl_Equal_string_c28 K env H = aw PP sl_Equal_string_c0 (seqK PP sl_Equal_string_c27 K) env H := aw_seq sl_Equal_string_c0 sl_Equal_string_c27
def sl_Equal_string_ac : AC := sl_Equal_string_c28
@[simp] theorem sl_Equal_string_ac_eq : aw PP sl_Equal_string_ac K env H = aw PP sl_Equal_string_c28 K env H := Eq.trans rfl rfl
def sl_Equal_string_rs : List ARV := [.tmp 4]
abbrev sl_Equal_string_id : Nat := 26
theorem sl_Equal_string_comp : compF PP sl_Equal_string_kl sl_Equal_string_ow 2 Tryd.f26 = some (sl_Equal_string_ac, sl_Equal_string_rs) := by kernel_rfl
theorem sl_Equal_string_enter {args : List AV} {H : AHeap} {post : ARes → AHeap → Prop} (ha : args.length = 2) (h : aw PP sl_Equal_string_ac (retK sl_Equal_string_rs post) (argEnv 0 args) H) : ACalls PP sl_Equal_string_id args H post := .enterF Tryd.func26 PP_mix sl_Equal_string_comp ha h

/-! slices.EqualFunc[[]emendate.api.Rule,[]emendate.api.Rule,emendate.api.Rule,emendate.api.Rule] -/
def sE_Rule_kl : Nat → List Nat
  | 0 => [6]
  | 1 => [10, 11, 12, 13]
  | 2 => [0, 1, 2, 14]
  | 3 => [0, 14]
  | 5 => [18, 19, 20, 21]
  | 6 => [7, 22, 23, 24, 25]
  | 7 => [8, 9, 26, 27, 28, 29]
  | 8 => [1, 2, 15, 16, 17, 30]
  | 9 => [30, 31]
  | 10 => [1, 2, 15, 16, 17, 18]
  | _ => []
def sE_Rule_ow : Nat → Nat → Bool := fun _ _ => false
def sE_Rule_c0 : AC := .reg [⟨some 6, none, .mov (.c (.bool false))⟩] [6]
@[simp] theorem sE_Rule_c0_eq : aw PP sE_Rule_c0 K env H = awOps PP [⟨some 6, none, .mov (.c (.bool false))⟩] (regK K [6]) (panK K) env H := aw_reg _ _
def sE_Rule_c1 : AC := .reg [⟨some 10, none, .mov (.t 0)⟩, ⟨some 11, none, .lenl (.t 10)⟩, ⟨some 12, none, .mov (.t 1)⟩, ⟨some 13, none, .lenl (.t 12)⟩, ⟨some 14, none, .bin (.neq) (.t 11) (.t 13)⟩] [10, 11, 12, 13]
@[simp] theorem sE_Rule_c1_eq : aw PP sE_Rule_c1 K env H = awOps PP [⟨some 10, none, .mov (.t 0)⟩, ⟨some 11, none, .lenl (.t 10)⟩, ⟨some 12, none, .mov (.t 1)⟩, ⟨some 13, none, .lenl (.t 12)⟩, ⟨some 14, none, .bin (.neq) (.t 11) (.t 13)⟩] (regK K [10, 11, 12, 13]) (panK K) env H := aw_reg _ _
def sE_Rule_c2 : AC := .reg [⟨some 6, none, .mov (.c (.bool false))⟩] [0, 1, 2, 14]
@[simp] theorem sE_Rule_c2_eq : aw PP sE_Rule_c2 K env H = awOps PP [⟨some 6, none, .mov (.c (.bool false))⟩] (regK K [0, 1, 2, 14]) (panK K) env H := aw_reg _ _
def sE_Rule_c3 : AC := .seq sE_Rule_c2 .ret
@[simp] theorem sE_Rule_c3_eq : aw PP sE_Rule_c3 K env H = aw PP sE_Rule_c2 (seqK PP .ret K) env H := aw_seq sE_Rule_c2 .ret
def sE_Rule_c4 : AC := .cond (.t 14) sE_Rule_c3 .skip
@[simp] theorem sE_Rule_c4_eq : aw PP sE_Rule_c4 K env H = condQ PP (Opd.ev env (.t 14)) sE_Rule_c3 .skip K env H := aw_cond _ sE_Rule_c3 .skip
def sE_Rule_c5 : AC := .seq sE_Rule_c1 sE_Rule_c4
@[simp] theorem sE_Rule_c5_eq : aw PP sE_Rule_c5 K env H = aw PP sE_Rule_c1 (seqK PP sE_Rule_c4 K) env H := aw_seq sE_Rule_c1 sE_Rule_c4
def sE_Rule_c6 : AC := .reg [⟨some 15, none, .mov (.t 0)⟩, ⟨some 16, none, .lenl (.t 15)⟩, ⟨some 17, none, .mov (.c (.int (.i64) 0))⟩] [0, 14]
@[simp] theorem sE_Rule_c6_eq : aw PP sE_Rule_c6 K env H = awOps PP [⟨some 15, none, .mov (.t 0)⟩, ⟨some 16, none, .lenl (.t 15)⟩, ⟨some 17, none, .mov (.c (.int (.i64) 0))⟩] (regK K [0, 14]) (panK K) env H := aw_reg _ _
def sE_Rule_c7 : AC := .reg [⟨some 18, none, .bin (.lss) (.t 17) (.t 16)⟩] []
@[simp] theorem sE_Rule_c7_eq : aw PP sE_Rule_c7 K env H = awOps PP [⟨some 18, none, .bin (.lss) (.t 17) (.t 16)⟩] (regK K []) (panK K) env H := aw_reg _ _
def sE_Rule_c8 : AC := .cond (.t 18) .skip (.exit 0)
@[simp] theorem sE_Rule_c8_eq : aw PP sE_Rule_c8 K env H = condQ PP (Opd.ev env (.t 18)) .skip (.exit 0) K env H := aw_cond _ .skip (.exit 0)
def sE_Rule_c9 : AC := .reg [⟨some 19, none, .mov (.t 17)⟩, ⟨some 20, none, .ixa 3 (.t 15) (.t 17)⟩, ⟨some 21, none, .ld true 3 (.t 20)⟩, ⟨some 8, none, .alloc (.struct [.int (.i64) 0, .nils, .int (.i64) 0]) 36⟩, ⟨some 7, none, .mov (.t 19)⟩, ⟨none, none, .st 3 (.t 8) (.t 21)⟩] [18, 19, 20, 21]
@[simp] theorem sE_Rule_c9_eq : aw PP sE_Rule_c9 K env H = awOps PP [⟨some 19, none, .mov (.t 17)⟩, ⟨some 20, none, .ixa 3 (.t 15) (.t 17)⟩, ⟨some 21, none, .ld true 3 (.t 20)⟩, ⟨some 8, none, .alloc (.struct [.int (.i64) 0, .nils, .int (.i64) 0]) 36⟩, ⟨some 7, none, .mov (.t 19)⟩, ⟨none, none, .st 3 (.t 8) (.t 21)⟩] (regK K [18, 19, 20, 21]) (panK K) env H := aw_reg _ _
def sE_Rule_c10 : AC := .reg [⟨some 22, none, .mov (.t 1)⟩, ⟨some 23, none, .mov (.t 7)⟩, ⟨some 24, none, .ixa 3 (.t 22) (.t 23)⟩, ⟨some 25, none, .ld true 3 (.t 24)⟩, ⟨some 9, none, .alloc (.struct [.int (.i64) 0, .nils, .int (.i64) 0]) 36⟩, ⟨none, none, .st 3 (.t 9) (.t 25)⟩] [7, 22, 23, 24, 25]
@[simp] theorem sE_Rule_c10_eq : aw PP sE_Rule_c10 K env H = awOps PP [⟨some 22, none, .mov (.t 1)⟩, ⟨some 23, none, .mov (.t 7)⟩, ⟨some 24, none, .ixa 3 (.t 22) (.t 23)⟩, ⟨some 25, none, .ld true 3 (.t 24)⟩, ⟨some 9, none, .alloc (.struct [.int (.i64) 0, .nils, .int (.i64) 0]) 36⟩, ⟨none, none, .st 3 (.t 9) (.t 25)⟩] (regK K [7, 22, 23, 24, 25]) (panK K) env H := aw_reg _ _
def sE_Rule_c11 : AC := .reg [⟨some 26, none, .mov (.t 2)⟩, ⟨some 27, none, .ld true 3 (.t 8)⟩, ⟨some 28, none, .ld true 3 (.t 9)⟩, ⟨some 29, none, .call (.t 26) [.t 27, .t 28]⟩, ⟨some 30, none, .not (.t 29)⟩] [8, 9, 26, 27, 28, 29]
@[simp] theorem sE_Rule_c11_eq : aw PP sE_Rule_c11 K env H = awOps PP [⟨some 26, none, .mov (.t 2)⟩, ⟨some 27, none, .ld true 3 (.t 8)⟩, ⟨some 28, none, .ld true 3 (.t 9)⟩, ⟨some 29, none, .call (.t 26) [.t 27, .t 28]⟩, ⟨some 30, none, .not (.t 29)⟩] (regK K [8, 9, 26, 27, 28, 29]) (panK K) env H := aw_reg _ _
def sE_Rule_c12 : AC := .reg [⟨some 6, none, .mov (.c (.bool false))⟩] [1, 2, 15, 16, 17, 30]
@[simp] theorem sE_Rule_c12_eq : aw PP sE_Rule_c12 K env H = awOps PP [⟨some 6, none, .mov (.c (.bool false))⟩] (regK K [1, 2, 15, 16, 17, 30]) (panK K) env H := aw_reg _ _
def sE_Rule_c13 : AC := .seq sE_Rule_c12 .ret
@[simp] theorem sE_Rule_c13_eq : aw PP sE_Rule_c13 K env H = aw PP sE_Rule_c12 (seqK PP .ret K) env H := aw_seq sE_Rule_c12 .ret
def sE_Rule_c14 : AC := .cond (.t 30) sE_Rule_c13 .skip
@[simp] theorem sE_Rule_c14_eq : aw PP sE_Rule_c14 K env H = condQ PP (Opd.ev env (.t 30)) sE_Rule_c13 .skip K env H := aw_cond _ sE_Rule_c13 .skip
def sE_Rule_c15 : AC := .seq sE_Rule_c11 sE_Rule_c14
@[simp] theorem sE_Rule_c15_eq : aw PP sE_Rule_c15 K env H = aw PP sE_Rule_c11 (seqK PP sE_Rule_c14 K) env H := aw_seq sE_Rule_c11 sE_Rule_c14
def sE_Rule_c16 : AC := .seq sE_Rule_c10 sE_Rule_c15
@[simp] theorem sE_Rule_c16_eq : aw PP sE_Rule_c16 K env H = aw PP sE_Rule_c10 (seqK PP sE_Rule_c15 K) env H := aw_seq sE_Rule_c10 sE_Rule_c15
def sE_Rule_c17 : AC := .seq sE_Rule_c9 sE_Rule_c16
@[simp] theorem sE_Rule_c17_eq : aw PP sE_Rule_c17 K env H = aw PP sE_Rule_c9 (seqK PP sE_Rule_c16 K) env H := aw_seq sE_Rule_c9 sE_Rule_c16
def sE_Rule_c18 : AC := .block 1 sE_Rule_c17
@[simp] theorem sE_Rule_c18_eq : aw PP sE_Rule_c18 K env H = aw PP sE_Rule_c17 (blockK 1 K) env H := aw_block _ sE_Rule_c17
def sE_Rule_c19 : AC := .reg [⟨some 31, none, .bin (.add) (.t 17) (.c (.int (.i64) 1))⟩, ⟨some 17, none, .mov (.t 31)⟩] [30, 31]
@[simp] theorem sE_Rule_c19_eq : aw PP sE_Rule_c19 K env H = awOps PP [⟨some 31, none, .bin (.add) (.t 17) (.c (.int (.i64) 1))⟩, ⟨some 17, none, .mov (.t 31)⟩] (regK K [30, 31]) (panK K) env H := aw_reg _ _
def sE_Rule_c20 : AC := .seq sE_Rule_c18 sE_Rule_c19
@[simp] theorem sE_Rule_c20_eq : aw PP sE_Rule_c20 K env H = aw PP sE_Rule_c18 (seqK PP sE_Rule_c19 K) env H := aw_seq sE_Rule_c18 sE_Rule_c19
def sE_Rule_c21 : AC := .seq sE_Rule_c8 sE_Rule_c20
@[simp] theorem sE_Rule_c21_eq : aw PP sE_Rule_c21 K env H = aw PP sE_Rule_c8 (seqK PP sE_Rule_c20 K) env H := aw_seq sE_Rule_c8 sE_Rule_c20
def sE_Rule_c22 : AC := .seq sE_Rule_c7 sE_Rule_c21
@[simp] theorem sE_Rule_c22_eq : aw PP sE_Rule_c22 K env H = aw PP sE_Rule_c7 (seqK PP sE_Rule_c21 K) env H := aw_seq sE_Rule_c7 sE_Rule_c21
def sE_Rule_c23 : AC := .loop sE_Rule_c22
def sE_Rule_c24 : AC := .block 0 sE_Rule_c23
@[simp] theorem sE_Rule_c24_eq : aw PP sE_Rule_c24 K env H = aw PP sE_Rule_c23 (blockK 0 K) env H := aw_block _ sE_Rule_c23
def sE_Rule_c25 : AC := .seq sE_Rule_c6 sE_Rule_c24
@[simp] theorem sE_Rule_c25_eq : aw PP sE_Rule_c25 K env H = aw PP sE_Rule_c6 (seqK PP sE_Rule_c24 K) env H := aw_seq sE_Rule_c6 sE_Rule_c24
def sE_Rule_c26 : AC := .reg [⟨some 6, none, .mov (.c (.bool true))⟩] [1, 2, 15, 16, 17, 18]
@[simp] theorem sE_Rule_c26_eq : aw PP sE_Rule_c26 K env H = awOps PP [⟨some 6, none, .mov (.c (.bool true))⟩] (regK K [1, 2, 15, 16, 17, 18]) (panK K) env H := aw_reg _ _
def sE_Rule_c27 : AC := .seq sE_Rule_c26 .ret
@[simp] theorem sE_Rule_c27_eq : aw PP sE_Rule_c27 K env H = aw PP sE_Rule_c26 (seqK PP .ret K) env H := aw_seq sE_Rule_c26 .ret
def sE_Rule_c28 : AC := .seq sE_Rule_c25 sE_Rule_c27
@[simp] theorem sE_Rule_c28_eq : aw PP sE_Rule_c28 K env H = aw PP sE_Rule_c25 (seqK PP sE_Rule_c27 K) env H := aw_seq sE_Rule_c25 sE_Rule_c27
def sE_Rule_c29 : AC := .seq sE_Rule_c5 sE_Rule_c28
@[simp] theorem sE_Rule_c29_eq : aw PP sE_Rule_c29 K env H = aw PP sE_Rule_c5 (seqK PP sE_Rule_c28 K) env H := aw_seq sE_Rule_c5 sE_Rule_c28
def sE_Rule_c30 : AC := .seq sE_Rule_c0 sE_Rule_c29
@[simp] theorem sE_Rule_c30_eq : aw PP sE_Rule_c30 K env H = aw PP sE_Rule_c0 (seqK PP sE_Rule_c29 K) env H := aw_seq sE_Rule_c0 sE_Rule_c29
def sE_Rule_ac : AC := sE_Rule_c30
@[simp] theorem sE_Rule_ac_eq : aw PP sE_Rule_ac K env H = aw PP sE_Rule_c30 K env H := Eq.trans rfl rfl
def sE_Rule_rs : List ARV := [.tmp 6]
abbrev sE_Rule_id : Nat := 27
theorem sE_Rule_comp : compF PP sE_Rule_kl sE_Rule_ow 3 Tryd.f27 = some (sE_Rule_ac, sE_Rule_rs) := by kernel_rfl
theorem sE_Rule_enter {args : List AV} {H : AHeap} {post : ARes → AHeap → Prop} (ha : args.length = 3) (h : aw PP sE_Rule_ac (retK sE_Rule_rs post) (argEnv 0 args) H) : ACalls PP sE_Rule_id args H post := .enterF Tryd.func27 PP_mix sE_Rule_comp ha h

/-! emendate.grammar.Equal$1 -/
def grammar_Equal_1_kl : Nat → List Nat
  | 0 => [0, 1, 4]
  | 1 => [2, 3, 5, 6, 7, 8, 9, 10, 11, 12, 13, 14, 15, 16, 17, 18, 19, 20, 21, 22, 23]
  | _ => []
def grammar_Equal_1_ow : Nat → Nat → Bool := fun _ _ => false
def grammar_Equal_1_c0 : AC := .reg [⟨some 2, none, .box (.t 0) 3 36⟩, ⟨some 3, none, .box (.t 1) 3 36⟩, ⟨some 4, none, .mov (.c (.bool false))⟩] [0, 1, 4]
@[simp] theorem grammar_Equal_1_c0_eq : aw PP grammar_Equal_1_c0 K env H = awOps PP [⟨some 2, none, .box (.t 0) 3 36⟩, ⟨some 3, none, .box (.t 1) 3 36⟩, ⟨some 4, none, .mov (.c (.bool false))⟩] (regK K [0, 1, 4]) (panK K) env H := aw_reg _ _
def grammar_Equal_1_c1 : AC := .reg [⟨some 5, none, .fa 0 0 (.t 2)⟩, ⟨some 6, none, .ld false 1 (.t 5)⟩, ⟨some 7, none, .fa 0 0 (.t 3)⟩, ⟨some 8, none, .ld false 1 (.t 7)⟩, ⟨some 9, none, .bin (.eql) (.t 6) (.t 8)⟩, ⟨some 10, none, .mov (.t 9)⟩, ⟨some 11, some (10, true), .fa 2 2 (.t 2)⟩, ⟨some 12, some (10, true), .ld false 1 (.t 11)⟩, ⟨some 13, some (10, true), .fa 2 2 (.t 3)⟩, ⟨some 14, some (10, true), .ld false 1 (.t 13)⟩, ⟨some 15, some (10, true), .bin (.eql) (.t 12) (.t 14)⟩, ⟨some 16, none, .pick (.t 10) (.t 15) (.c (.bool false))⟩, ⟨some 17, none, .mov (.t 16)⟩, ⟨some 18, some (17, true), .fa 1 1 (.t 2)⟩, ⟨some 19, some (17, true), .ld false 1 (.t 18)⟩, ⟨some 20, some (17, true), .fa 1 1 (.t 3)⟩, ⟨some 21, some (17, true), .ld false 1 (.t 20)⟩, ⟨some 22, some (17, true), .call (.c (.fn (.func 29) [] [])) [.t 19, .t 21]⟩, ⟨some 23, none, .pick (.t 17) (.t 22) (.c (.bool false))⟩, ⟨some 4, none, .mov (.t 23)⟩] [2, 3, 5, 6, 7, 8, 9, 10, 11, 12, 13, 14, 15, 16, 17, 18, 19, 20, 21, 22, 23]
@[simp] theorem grammar_Equal_1_c1_eq : aw PP grammar_Equal_1_c1 K env H = awOps PP [⟨some 5, none, .fa 0 0 (.t 2)⟩, ⟨some 6, none, .ld false 1 (.t 5)⟩, ⟨some 7, none, .fa 0 0 (.t 3)⟩, ⟨some 8, none, .ld false 1 (.t 7)⟩, ⟨some 9, none, .bin (.eql) (.t 6) (.t 8)⟩, ⟨some 10, none, .mov (.t 9)⟩, ⟨some 11, some (10, true), .fa 2 2 (.t 2)⟩, ⟨some 12, some (10, true), .ld false 1 (.t 11)⟩, ⟨some 13, some (10, true), .fa 2 2 (.t 3)⟩, ⟨some 14, some (10, true), .ld false 1 (.t 13)⟩, ⟨some 15, some (10, true), .bin (.eql) (.t 12) (.t 14)⟩, ⟨some 16, none, .pick (.t 10) (.t 15) (.c (.bool false))⟩, ⟨some 17, none, .mov (.t 16)⟩, ⟨some 18, some (17, true), .fa 1 1 (.t 2)⟩, ⟨some 19, some (17, true), .ld false 1 (.t 18)⟩, ⟨some 20, some (17, true), .fa 1 1 (.t 3)⟩, ⟨some 21, some (17, true), .ld false 1 (.t 20)⟩, ⟨some 22, some (17, true), .call (.c (.fn (.func 29) [] [])) [.t 19, .t 21]⟩, ⟨some 23, none, .pick (.t 17) (.t 22) (.c (.bool false))⟩, ⟨some 4, none, .mov (.t 23)⟩] (regK K [2, 3, 5, 6, 7, 8, 9, 10, 11, 12, 13, 14, 15, 16, 17, 18, 19, 20, 21, 22, 23]) (panK K) env H := aw_reg _ _
def grammar_Equal_1_c2 : AC := .seq grammar_Equal_1_c1 .ret
@[simp] theorem grammar_Equal_1_c2_eq : aw PP grammar_Equal_1_c2 K env H = aw PP grammar_Equal_1_c1 (seqK PP .ret K) env H := aw_seq grammar_Equal_1_c1 .ret
def grammar_Equal_1_c3 : AC := .seq grammar_Equal_1_c0 grammar_Equal_1_c2
@[simp] theorem grammar_Equal_1_c3_eq : aw PP grammar_Equal_1_c3 K env H = aw PP grammar_Equal_1_c0 (seqK PP grammar_Equal_1_c2 K) env H := aw_seq grammar_Equal_1_c0 grammar_Equal_1_c2
def grammar_Equal_1_ac : AC := grammar_Equal_1_c3
@[simp] theorem grammar_Equal_1_ac_eq : aw PP grammar_Equal_1_ac K env H = aw PP grammar_Equal_1_c3 K env H := Eq.trans rfl rfl
def grammar_Equal_1_rs : List ARV := [.tmp 4]
abbrev grammar_Equal_1_id : Nat := 28
theorem grammar_Equal_1_comp : compF PP grammar_Equal_1_kl grammar_Equal_1_ow 2 Tryd.f28 = some (grammar_Equal_1_ac, grammar_Equal_1_rs) := by kernel_rfl
theorem grammar_Equal_1_enter {args : List AV} {H : AHeap} {post : ARes → AHeap → Prop} (ha : args.length = 2) (h : aw PP grammar_Equal_1_ac (retK grammar_Equal_1_rs post) (argEnv 0 args) H) : ACalls PP grammar_Equal_1_id args H post := .enterF Tryd.func28 PP_mix grammar_Equal_1_comp ha h

/-! slices.Equal[[]int,int] -/
def sl_Equal_int_kl : Nat → List Nat
  | 0 => [4]
  | 1 => [6, 7, 8, 9]
  | 2 => [0, 1, 10]
  | 3 => [10, 11]
  | 5 => [14, 15]
  | 6 => [5, 16, 17, 18, 19, 20, 21, 22, 23]
  | 7 => [0, 1, 12, 13, 24]
  | 8 => [24, 25]
  | 9 => [0, 1, 12, 13, 14]
  | _ => []
def sl_Equal_int_ow : Nat → Nat → Bool := fun _ _ => false
def sl_Equal_int_c0 : AC := .reg [⟨some 4, none, .mov (.c (.bool false))⟩] [4]
@[simp] theorem sl_Equal_int_c0_eq : aw PP sl_Equal_int_c0 K env H = awOps PP [⟨some 4, none, .mov (.c (.bool false))⟩] (regK K [4]) (panK K) env H := aw_reg _ _
def sl_Equal_int_c1 : AC := .reg [⟨some 6, none, .mov (.t 0)⟩, ⟨some 7, none, .lenl (.t 6)⟩, ⟨some 8, none, .mov (.t 1)⟩, ⟨some 9, none, .lenl (.t 8)⟩, ⟨some 10, none, .bin (.neq) (.t 7) (.t 9)⟩] [6, 7, 8, 9]
@[simp] theorem sl_Equal_int_c1_eq : aw PP sl_Equal_int_c1 K env H = awOps PP [⟨some 6, none, .mov (.t 0)⟩, ⟨some 7, none, .lenl (.t 6)⟩, ⟨some 8, none, .mov (.t 1)⟩, ⟨some 9, none, .lenl (.t 8)⟩, ⟨some 10, none, .bin (.neq) (.t 7) (.t 9)⟩] (regK K [6, 7, 8, 9]) (panK K) env H := aw_reg _ _
def sl_Equal_int_c2 : AC := .reg [⟨some 4, none, .mov (.c (.bool false))⟩] [0, 1, 10]
@[simp] theorem sl_Equal_int_c2_eq : aw PP sl_Equal_int_c2 K env H = awOps PP [⟨some 4, none, .mov (.c (.bool false))⟩] (regK K [0, 1, 10]) (panK K) env H := aw_reg _ _
def sl_Equal_int_c3 : AC := .seq sl_Equal_int_c2 .ret
@[simp] theorem sl_Equal_int_c3_eq : aw PP sl_Equal_int_c3 K env H = aw PP sl_Equal_int_c2 (seqK PP .ret K) env H := aw_seq sl_Equal_int_c2 .ret
def sl_Equal_int_c4 : AC := .cond (.t 10) sl_Equal_int_c3 .skip
@[simp] theorem sl_Equal_int_c4_eq : aw PP sl_Equal_int_c4 K env H = condQ PP (Opd.ev env (.t 10)) sl_Equal_int_c3 .skip K env H := aw_cond _ sl_Equal_int_c3 .skip
def sl_Equal_int_c5 : AC := .seq sl_Equal_int_c1 sl_Equal_int_c4
@[simp] theorem sl_Equal_int_c5_eq : aw PP sl_Equal_int_c5 K env H = aw PP sl_Equal_int_c1 (seqK PP sl_Equal_int_c4 K) env H := aw_seq sl_Equal_int_c1 sl_Equal_int_c4
def sl_Equal_int_c6 : AC := .reg [⟨some 11, none, .mov (.t 0)⟩, ⟨some 12, none, .lenl (.t 11)⟩, ⟨some 13, none, .mov (.c (.int (.i64) 0))⟩] [10, 11]
@[simp] theorem sl_Equal_int_c6_eq : aw PP sl_Equal_int_c6 K env H = awOps PP [⟨some 11, none, .mov (.t 0)⟩, ⟨some 12, none, .lenl (.t 11)⟩, ⟨some 13, none, .mov (.c (.int (.i64) 0))⟩] (regK K [10, 11]) (panK K) env H := aw_reg _ _
def sl_Equal_int_c7 : AC := .reg [⟨some 14, none, .bin (.lss) (.t 13) (.t 12)⟩] []
@[simp] theorem sl_Equal_int_c7_eq : aw PP sl_Equal_int_c7 K env H = awOps PP [⟨some 14, none, .bin (.lss) (.t 13) (.t 12)⟩] (regK K []) (panK K) env H := aw_reg _ _
def sl_Equal_int_c8 : AC := .cond (.t 14) .skip (.exit 0)
@[simp] theorem sl_Equal_int_c8_eq : aw PP sl_Equal_int_c8 K env H = condQ PP (Opd.ev env (.t 14)) .skip (.exit 0) K env H := aw_cond _ .skip (.exit 0)
def sl_Equal_int_c9 : AC := .reg [⟨some 15, none, .mov (.t 13)⟩, ⟨some 5, none, .mov (.t 15)⟩] [14, 15]
@[simp] theorem sl_Equal_int_c9_eq : aw PP sl_Equal_int_c9 K env H = awOps PP [⟨some 15, none, .mov (.t 13)⟩, ⟨some 5, none, .mov (.t 15)⟩] (regK K [14, 15]) (panK K) env H := aw_reg _ _
def sl_Equal_int_c10_ops : List (AI × List Nat) := [(⟨some 16, none, .mov (.t 0)⟩, []), (⟨some 17, none, .mov (.t 5)⟩, []), (⟨some 18, none, .ixa 1 (.t 16) (.t 17)⟩, [0, 1]), (⟨some 19, none, .ld false 1 (.t 18)⟩, [2]), (⟨some 20, none, .mov (.t 1)⟩, []), (⟨some 21, none, .mov (.t 5)⟩, []), (⟨some 22, none, .ixa 1 (.t 20) (.t 21)⟩, [4, 5]), (⟨some 23, none, .ld false 1 (.t 22)⟩, [6]), (⟨some 24, none, .bin (.neq) (.t 19) (.t 23)⟩, [3, 7])]
def sl_Equal_int_c10 : AC := .dreg sl_Equal_int_c10_ops [5, 16, 17, 18, 19, 20, 21, 22, 23]
theorem sl_Equal_int_c10_ok : lexOK sl_Equal_int_c10_ops (fun i => [].contains i) = true := by kernel_rfl
theorem sl_Equal_int_c10_lex (h : awLex PP (fun i => [].contains i) (regK K [5, 16, 17, 18, 19, 20, 21, 22, 23]) (panK K) [(0, ⟨some 16, none, .mov (.t 0)⟩), (1, ⟨some 17, none, .mov (.t 5)⟩), (2, ⟨some 18, none, .ixa 1 (.t 16) (.t 17)⟩), (3, ⟨some 19, none, .ld false 1 (.t 18)⟩), (4, ⟨some 20, none, .mov (.t 1)⟩), (5, ⟨some 21, none, .mov (.t 5)⟩), (6, ⟨some 22, none, .ixa 1 (.t 20) (.t 21)⟩), (7, ⟨some 23, none, .ld false 1 (.t 22)⟩), (8, ⟨some 24, none, .bin (.neq) (.t 19) (.t 23)⟩)] env H) : aw PP sl_Equal_int_c10 K env H := aw_dreg_lex _ sl_Equal_int_c10_ok h
def sl_Equal_int_c11 : AC := .reg [⟨some 4, none, .mov (.c (.bool false))⟩] [0, 1, 12, 13, 24]
@[simp] theorem sl_Equal_int_c11_eq : aw PP sl_Equal_int_c11 K env H = awOps PP [⟨some 4, none, .mov (.c (.bool false))⟩] (regK K [0, 1, 12, 13, 24]) (panK K) env H := aw_reg _ _
def sl_Equal_int_c12 : AC := .seq sl_Equal_int_c11 .ret
@[simp] theorem sl_Equal_int_c12_eq : aw PP sl_Equal_int_c12 K env H = aw PP sl_Equal_int_c11 (seqK PP .ret K) env H := aw_seq sl_Equal_int_c11 .ret
def sl_Equal_int_c13 : AC := .cond (.t 24) sl_Equal_int_c12 .skip
@[simp] theorem sl_Equal_int_c13_eq : aw PP sl_Equal_int_c13 K env H = condQ PP (Opd.ev env (.t 24)) sl_Equal_int_c12 .skip K env H := aw_cond _ sl_Equal_int_c12 .skip
def sl_Equal_int_c14 : AC := .seq sl_Equal_int_c10 sl_Equal_int_c13
@[simp] theorem sl_Equal_int_c14_eq : aw PP sl_Equal_int_c14 K env H = aw PP sl_Equal_int_c10 (seqK PP sl_Equal_int_c13 K) env H := aw_seq sl_Equal_int_c10 sl_Equal_int_c13
def sl_Equal_int_c15 : AC := .seq sl_Equal_int_c9 sl_Equal_int_c14
@[simp] theorem sl_Equal_int_c15_eq : aw PP sl_Equal_int_c15 K env H = aw PP sl_Equal_int_c9 (seqK PP sl_Equal_int_c14 K) env H := aw_seq sl_Equal_int_c9 sl_Equal_int_c14
def sl_Equal_int_c16 : AC := .block 1 sl_Equal_int_c15
@[simp] theorem sl_Equal_int_c16_eq : aw PP sl_Equal_int_c16 K env H = aw PP sl_Equal_int_c15 (blockK 1 K) env H := aw_block _ sl_Equal_int_c15
def sl_Equal_int_c17 : AC := .reg [⟨some 25, none, .bin (.add) (.t 13) (.c (.int (.i64) 1))⟩, ⟨some 13, none, .mov (.t 25)⟩] [24, 25]
@[simp] theorem sl_Equal_int_c17_eq : aw PP sl_Equal_int_c17 K env H = awOps PP [⟨some 25, none, .bin (.add) (.t 13) (.c (.int (.i64) 1))⟩, ⟨some 13, none, .mov (.t 25)⟩] (regK K [24, 25]) (panK K) env H := aw_reg _ _
def sl_Equal_int_c18 : AC := .seq sl_Equal_int_c16 sl_Equal_int_c17
@[simp] theorem sl_Equal_int_c18_eq : aw PP sl_Equal_int_c18 K env H = aw PP sl_Equal_int_c16 (seqK PP sl_Equal_int_c17 K) env H := aw_seq sl_Equal_int_c16 sl_Equal_int_c17
def sl_Equal_int_c19 : AC := .seq sl_Equal_int_c8 sl_Equal_int_c18
@[simp] theorem sl_Equal_int_c19_eq : aw PP sl_Equal_int_c19 K env H = aw PP sl_Equal_int_c8 (seqK PP sl_Equal_int_c18 K) env H := aw_seq sl_Equal_int_c8 sl_Equal_int_c18
def sl_Equal_int_c20 : AC := .seq sl_Equal_int_c7 sl_Equal_int_c19
@[simp] theorem sl_Equal_int_c20_eq : aw PP sl_Equal_int_c20 K env H = aw PP sl_Equal_int_c7 (seqK PP sl_Equal_int_c19 K) env H := aw_seq sl_Equal_int_c7 sl_Equal_int_c19
def sl_Equal_int_c21 : AC := .loop sl_Equal_int_c20
def sl_Equal_int_c22 : AC := .block 0 sl_Equal_int_c21
@[simp] theorem sl_Equal_int_c22_eq : aw PP sl_Equal_int_c22 K env H = aw PP sl_Equal_int_c21 (blockK 0 K) env H := aw_block _ sl_Equal_int_c21
def sl_Equal_int_c23 : AC := .seq sl_Equal_int_c6 sl_Equal_int_c22
@[simp] theorem sl_Equal_int_c23_eq : aw PP sl_Equal_int_c23 K env H = aw PP sl_Equal_int_c6 (seqK PP sl_Equal_int_c22 K) env H := aw_seq sl_Equal_int_c6 sl_Equal_int_c22
def sl_Equal_int_c24 : AC := .reg [⟨some 4, none, .mov (.c (.bool true))⟩] [0, 1, 12, 13, 14]
@[simp] theorem sl_Equal_int_c24_eq : aw PP sl_Equal_int_c24 K env H = awOps PP [⟨some 4, none, .mov (.c (.bool true))⟩] (regK K [0, 1, 12, 13, 14]) (panK K) env H := aw_reg _ _
def sl_Equal_int_c25 : AC := .seq sl_Equal_int_c24 .ret
@[simp] theorem sl_Equal_int_c25_eq : aw PP sl_Equal_int_c25 K env H = aw PP sl_Equal_int_c24 (seqK PP .ret K) env H := aw_seq sl_Equal_int_c24 .ret
def sl_Equal_int_c26 : AC := .seq sl_Equal_int_c23 sl_Equal_int_c25
@[simp] theorem sl_Equal_int_c26_eq : aw PP sl_Equal_int_c26 K env H = aw PP sl_Equal_int_c23 (seqK PP sl_Equal_int_c25 K) env H := aw_seq sl_Equal_int_c23 sl_Equal_int_c25
def sl_Equal_int_c27 : AC := .seq sl_Equal_int_c5 sl_Equal_int_c26
@[simp] theorem sl_Equal_int_c27_eq : aw PP sl_Equal_int_c27 K env H = aw PP sl_Equal_int_c5 (seqK PP sl_Equal_int_c26 K) env H := aw_seq sl_Equal_int_c5 sl_Equal_int_c26
def sl_Equal_int_c28 : AC := .seq sl_Equal_int_c0 sl_Equal_int_c27
@[simp] theorem sl_Equal_int_c28_eq : aw PP sl_Equal_int_c28 K env H = aw PP sl_Equal_int_c0 (seqK PP sl_Equal_int_c27 K) env H := aw_seq sl_Equal_int_c0 sl_Equal_int_c27
def sl_Equal_int_ac : AC := sl_Equal_int_c28
@[simp] theorem sl_Equal_int_ac_eq : aw PP sl_Equal_int_ac K env H = aw PP sl_Equal_int_c28 K env H := Eq.trans rfl rfl
def sl_Equal_int_rs : List ARV := [.tmp 4]
abbrev sl_Equal_int_id : Nat := 29
theorem sl_Equal_int_comp : compF PP sl_Equal_int_kl sl_Equal_int_ow 2 Tryd.f29 = some (sl_Equal_int_ac, sl_Equal_int_rs) := by kernel_rfl
theorem sl_Equal_int_enter {args : List AV} {H : AHeap} {post : ARes → AHeap → Prop} (ha : args.length = 2) (h : aw PP sl_Equal_int_ac (retK sl_Equal_int_rs post) (argEnv 0 args) H) : ACalls PP sl_Equal_int_id args H post := .enterF Tryd.func29 PP_mix sl_Equal_int_comp ha h

/-! emendate.emendateref18.sameNames -/
def ref18_sameNames_kl : Nat → List Nat
  | 0 => [4]
  | 1 => [6, 7, 8, 9]
  | 2 => [0, 1, 10]
  | 3 => [10]
  | 4 => [11, 12, 13]
  | 5 => [15, 16, 25]
  | 6 => [14, 17, 18, 19, 20, 21, 22, 23, 24]
  | 7 => [0, 1, 5, 25]
  | 8 => [0, 1, 5, 14]
  | _ => []
def ref18_sameNames_ow : Nat → Nat → Bool := fun _ _ => false
def ref18_sameNames_c0 : AC := .reg [⟨some 4, none, .mov (.c (.bool false))⟩] [4]
@[simp] theorem ref18_sameNames_c0_eq : aw PP ref18_sameNames_c0 K env H = awOps PP [⟨some 4, none, .mov (.c (.bool false))⟩] (regK K [4]) (panK K) env H := aw_reg _ _
def ref18_sameNames_c1 : AC := .reg [⟨some 6, none, .mov (.t 0)⟩, ⟨some 7, none, .lenl (.t 6)⟩, ⟨some 8, none, .mov (.t 1)⟩, ⟨some 9, none, .lenl (.t 8)⟩, ⟨some 10, none, .bin (.neq) (.t 7) (.t 9)⟩] [6, 7, 8, 9]
@[simp] theorem ref18_sameNames_c1_eq : aw PP ref18_sameNames_c1 K env H = awOps PP [⟨some 6, none, .mov (.t 0)⟩, ⟨some 7, none, .lenl (.t 6)⟩, ⟨some 8, none, .mov (.t 1)⟩, ⟨some 9, none, .lenl (.t 8)⟩, ⟨some 10, none, .bin (.neq) (.t 7) (.t 9)⟩] (regK K [6, 7, 8, 9]) (panK K) env H := aw_reg _ _
def ref18_sameNames_c2 : AC := .reg [⟨some 4, none, .mov (.c (.bool false))⟩] [0, 1, 10]
@[simp] theorem ref18_sameNames_c2_eq : aw PP ref18_sameNames_c2 K env H = awOps PP [⟨some 4, none, .mov (.c (.bool false))⟩] (regK K [0, 1, 10]) (panK K) env H := aw_reg _ _
def ref18_sameNames_c3 : AC := .seq ref18_sameNames_c2 .ret
@[simp] theorem ref18_sameNames_c3_eq : aw PP ref18_sameNames_c3 K env H = aw PP ref18_sameNames_c2 (seqK PP .ret K) env H := aw_seq ref18_sameNames_c2 .ret
def ref18_sameNames_c4 : AC := .cond (.t 10) ref18_sameNames_c3 .skip
@[simp] theorem ref18_sameNames_c4_eq : aw PP ref18_sameNames_c4 K env H = condQ PP (Opd.ev env (.t 10)) ref18_sameNames_c3 .skip K env H := aw_cond _ ref18_sameNames_c3 .skip
def ref18_sameNames_c5 : AC := .seq ref18_sameNames_c1 ref18_sameNames_c4
@[simp] theorem ref18_sameNames_c5_eq : aw PP ref18_sameNames_c5 K env H = aw PP ref18_sameNames_c1 (seqK PP ref18_sameNames_c4 K) env H := aw_seq ref18_sameNames_c1 ref18_sameNames_c4
def ref18_sameNames_c6 : AC := .reg [⟨some 5, none, .mov (.c (.int (.i64) 0))⟩] [10]
@[simp] theorem ref18_sameNames_c6_eq : aw PP ref18_sameNames_c6 K env H = awOps PP [⟨some 5, none, .mov (.c (.int (.i64) 0))⟩] (regK K [10]) (panK K) env H := aw_reg _ _
def ref18_sameNames_c7 : AC := .reg [⟨some 11, none, .mov (.t 5)⟩, ⟨some 12, none, .mov (.t 0)⟩, ⟨some 13, none, .lenl (.t 12)⟩, ⟨some 14, none, .bin (.lss) (.t 11) (.t 13)⟩] [11, 12, 13]
@[simp] theorem ref18_sameNames_c7_eq : aw PP ref18_sameNames_c7 K env H = awOps PP [⟨some 11, none, .mov (.t 5)⟩, ⟨some 12, none, .mov (.t 0)⟩, ⟨some 13, none, .lenl (.t 12)⟩, ⟨some 14, none, .bin (.lss) (.t 11) (.t 13)⟩] (regK K [11, 12, 13]) (panK K) env H := aw_reg _ _
def ref18_sameNames_c8 : AC := .cond (.t 14) .skip (.exit 0)
@[simp] theorem ref18_sameNames_c8_eq : aw PP ref18_sameNames_c8 K env H = condQ PP (Opd.ev env (.t 14)) .skip (.exit 0) K env H := aw_cond _ .skip (.exit 0)
def ref18_sameNames_c9 : AC := .seq ref18_sameNames_c7 ref18_sameNames_c8
@[simp] theorem ref18_sameNames_c9_eq : aw PP ref18_sameNames_c9 K env H = aw PP ref18_sameNames_c7 (seqK PP ref18_sameNames_c8 K) env H := aw_seq ref18_sameNames_c7 ref18_sameNames_c8
def ref18_sameNames_c10_ops : List (AI × List Nat) := [(⟨some 17, none, .mov (.t 0)⟩, []), (⟨some 18, none, .mov (.t 5)⟩, []), (⟨some 19, none, .ixa 1 (.t 17) (.t 18)⟩, [0, 1]), (⟨some 20, none, .ld false 1 (.t 19)⟩, [2]), (⟨some 21, none, .mov (.t 1)⟩, []), (⟨some 22, none, .mov (.t 5)⟩, []), (⟨some 23, none, .ixa 1 (.t 21) (.t 22)⟩, [4, 5]), (⟨some 24, none, .ld false 1 (.t 23)⟩, [6]), (⟨some 25, none, .bin (.neq) (.t 20) (.t 24)⟩, [3, 7])]
def ref18_sameNames_c10 : AC := .dreg ref18_sameNames_c10_ops [14, 17, 18, 19, 20, 21, 22, 23, 24]
theorem ref18_sameNames_c10_ok : lexOK ref18_sameNames_c10_ops (fun i => [].contains i) = true := by kernel_rfl
theorem ref18_sameNames_c10_lex (h : awLex PP (fun i => [].contains i) (regK K [14, 17, 18, 19, 20, 21, 22, 23, 24]) (panK K) [(0, ⟨some 17, none, .mov (.t 0)⟩), (1, ⟨some 18, none, .mov (.t 5)⟩), (2, ⟨some 19, none, .ixa 1 (.t 17) (.t 18)⟩), (3, ⟨some 20, none, .ld false 1 (.t 19)⟩), (4, ⟨some 21, none, .mov (.t 1)⟩), (5, ⟨some 22, none, .mov (.t 5)⟩), (6, ⟨some 23, none, .ixa 1 (.t 21) (.t 22)⟩), (7, ⟨some 24, none, .ld false 1 (.t 23)⟩), (8, ⟨some 25, none, .bin (.neq) (.t 20) (.t 24)⟩)] env H) : aw PP ref18_sameNames_c10 K env H := aw_dreg_lex _ ref18_sameNames_c10_ok h
def ref18_sameNames_c11 : AC := .reg [⟨some 4, none, .mov (.c (.bool false))⟩] [0, 1, 5, 25]
@[simp] theorem ref18_sameNames_c11_eq : aw PP ref18_sameNames_c11 K env H = awOps PP [⟨some 4, none, .mov (.c (.bool false))⟩] (regK K [0, 1, 5, 25]) (panK K) env H := aw_reg _ _
def ref18_sameNames_c12 : AC := .seq ref18_sameNames_c11 .ret
@[simp] theorem ref18_sameNames_c12_eq : aw PP ref18_sameNames_c12 K env H = aw PP ref18_sameNames_c11 (seqK PP .ret K) env H := aw_seq ref18_sameNames_c11 .ret
def ref18_sameNames_c13 : AC := .cond (.t 25) ref18_sameNames_c12 .skip
@[simp] theorem ref18_sameNames_c13_eq : aw PP ref18_sameNames_c13 K env H = condQ PP (Opd.ev env (.t 25)) ref18_sameNames_c12 .skip K env H := aw_cond _ ref18_sameNames_c12 .skip
def ref18_sameNames_c14 : AC := .seq ref18_sameNames_c10 ref18_sameNames_c13
@[simp] theorem ref18_sameNames_c14_eq : aw PP ref18_sameNames_c14 K env H = aw PP ref18_sameNames_c10 (seqK PP ref18_sameNames_c13 K) env H := aw_seq ref18_sameNames_c10 ref18_sameNames_c13
def ref18_sameNames_c15 : AC := .block 1 ref18_sameNames_c14
@[simp] theorem ref18_sameNames_c15_eq : aw PP ref18_sameNames_c15 K env H = aw PP ref18_sameNames_c14 (blockK 1 K) env H := aw_block _ ref18_sameNames_c14
def ref18_sameNames_c16 : AC := .reg [⟨some 15, none, .mov (.t 5)⟩, ⟨some 16, none, .bin (.add) (.t 15) (.c (.int (.i64) 1))⟩, ⟨some 5, none, .mov (.t 16)⟩] [15, 16, 25]
@[simp] theorem ref18_sameNames_c16_eq : aw PP ref18_sameNames_c16 K env H = awOps PP [⟨some 15, none, .mov (.t 5)⟩, ⟨some 16, none, .bin (.add) (.t 15) (.c (.int (.i64) 1))⟩, ⟨some 5, none, .mov (.t 16)⟩] (regK K [15, 16, 25]) (panK K) env H := aw_reg _ _
def ref18_sameNames_c17 : AC := .seq ref18_sameNames_c15 ref18_sameNames_c16
@[simp] theorem ref18_sameNames_c17_eq : aw PP ref18_sameNames_c17 K env H = aw PP ref18_sameNames_c15 (seqK PP ref18_sameNames_c16 K) env H := aw_seq ref18_sameNames_c15 ref18_sameNames_c16
def ref18_sameNames_c18 : AC := .seq ref18_sameNames_c9 ref18_sameNames_c17
@[simp] theorem ref18_sameNames_c18_eq : aw PP ref18_sameNames_c18 K env H = aw PP ref18_sameNames_c9 (seqK PP ref18_sameNames_c17 K) env H := aw_seq ref18_sameNames_c9 ref18_sameNames_c17
def ref18_sameNames_c19 : AC := .loop ref18_sameNames_c18
def ref18_sameNames_c20 : AC := .block 0 ref18_sameNames_c19
@[simp] theorem ref18_sameNames_c20_eq : aw PP ref18_sameNames_c20 K env H = aw PP ref18_sameNames_c19 (blockK 0 K) env H := aw_block _ ref18_sameNames_c19
def ref18_sameNames_c21 : AC := .seq ref18_sameNames_c6 ref18_sameNames_c20
@[simp] theorem ref18_sameNames_c21_eq : aw PP ref18_sameNames_c21 K env H = aw PP ref18_sameNames_c6 (seqK PP ref18_sameNames_c20 K) env H := aw_seq ref18_sameNames_c6 ref18_sameNames_c20
def ref18_sameNames_c22 : AC := .reg [⟨some 4, none, .mov (.c (.bool true))⟩] [0, 1, 5, 14]
@[simp] theorem ref18_sameNames_c22_eq : aw PP ref18_sameNames_c22 K env H = awOps PP [⟨some 4, none, .mov (.c (.bool true))⟩] (regK K [0, 1, 5, 14]) (panK K) env H := aw_reg _ _
def ref18_sameNames_c23 : AC := .seq ref18_sameNames_c22 .ret
@[simp] theorem ref18_sameNames_c23_eq : aw PP ref18_sameNames_c23 K env H = aw PP ref18_sameNames_c22 (seqK PP .ret K) env H := aw_seq ref18_sameNames_c22 .ret
def ref18_sameNames_c24 : AC := .seq ref18_sameNames_c21 ref18_sameNames_c23
@[simp] theorem ref18_sameNames_c24_eq : aw PP ref18_sameNames_c24 K env H = aw PP ref18_sameNames_c21 (seqK PP ref18_sameNames_c23 K) env H := aw_seq ref18_sameNames_c21 ref18_sameNames_c23
def ref18_sameNames_c25 : AC := .seq ref18_sameNames_c5 ref18_sameNames_c24
@[simp] theorem ref18_sameNames_c25_eq : aw PP ref18_sameNames_c25 K env H = aw PP ref18_sameNames_c5 (seqK PP ref18_sameNames_c24 K) env H := aw_seq ref18_sameNames_c5 ref18_sameNames_c24
def ref18_sameNames_c26 : AC := .seq ref18_sameNames_c0 ref18_sameNames_c25
@[simp] theorem ref18_sameNames_c26_eq : aw PP ref18_sameNames_c26 K env H = aw PP ref18_sameNames_c0 (seqK PP ref18_sameNames_c25 K) env H := aw_seq ref18_sameNames_c0 ref18_sameNames_c25
def ref18_sameNames_ac : AC := ref18_sameNames_c26
@[simp] theorem ref18_sameNames_ac_eq : aw PP ref18_sameNames_ac K env H = aw PP ref18_sameNames_c26 K env H := Eq.trans rfl rfl
def ref18_sameNames_rs : List ARV := [.tmp 4]
abbrev ref18_sameNames_id : Nat := 30
theorem ref18_sameNames_comp : compF PP ref18_sameNames_kl ref18_sameNames_ow 2 Tryd.f30 = some (ref18_sameNames_ac, ref18_sameNames_rs) := by kernel_rfl
theorem ref18_sameNames_enter {args : List AV} {H : AHeap} {post : ARes → AHeap → Prop} (ha : args.length = 2) (h : aw PP ref18_sameNames_ac (retK ref18_sameNames_rs post) (argEnv 0 args) H) : ACalls PP ref18_sameNames_id args H post := .enterF Tryd.func30 PP_mix ref18_sameNames_comp ha h

/-! emendate.grammar.Format$1 -/
def grammar_Format_1_kl : Nat → List Nat
  | 0 => [0, 1, 3, 4, 5, 6]
  | _ => []
def grammar_Format_1_ow : Nat → Nat → Bool := fun _ _ => false
def grammar_Format_1_c0 : AC := .reg [⟨some 3, none, .mov (.t 0)⟩, ⟨some 4, none, .call (.c (.fn (.func 33) [] [])) [.t 3, .c (.str [32])]⟩, ⟨some 5, none, .bin (.add) (.t 4) (.c (.str [10]))⟩, ⟨some 6, none, .call (.c (.fn (.func 32) [] [])) [.t 1, .t 5]⟩] [0, 1, 3, 4, 5, 6]
@[simp] theorem grammar_Format_1_c0_eq : aw PP grammar_Format_1_c0 K env H = awOps PP [⟨some 3, none, .mov (.t 0)⟩, ⟨some 4, none, .call (.c (.fn (.func 33) [] [])) [.t 3, .c (.str [32])]⟩, ⟨some 5, none, .bin (.add) (.t 4) (.c (.str [10]))⟩, ⟨some 6, none, .call (.c (.fn (.func 32) [] [])) [.t 1, .t 5]⟩] (regK K [0, 1, 3, 4, 5, 6]) (panK K) env H := aw_reg _ _
def grammar_Format_1_ac : AC := grammar_Format_1_c0
@[simp] theorem grammar_Format_1_ac_eq : aw PP grammar_Format_1_ac K env H = aw PP grammar_Format_1_c0 K env H := Eq.trans rfl rfl
def grammar_Format_1_rs : List ARV := []
abbrev grammar_Format_1_id : Nat := 31
theorem grammar_Format_1_comp : compF PP grammar_Format_1_kl grammar_Format_1_ow 2 Tryd.f31 = some (grammar_Format_1_ac, grammar_Format_1_rs) := by kernel_rfl
theorem grammar_Format_1_enter {args : List AV} {H : AHeap} {post : ARes → AHeap → Prop} (ha : args.length = 2) (h : aw PP grammar_Format_1_ac (retK grammar_Format_1_rs post) (argEnv 0 args) H) : ACalls PP grammar_Format_1_id args H post := .enterF Tryd.func31 PP_mix grammar_Format_1_comp ha h

end Go.Av
