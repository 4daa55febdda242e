/- Functions of the given program, compiled to the own form by program. -/
import Derived.Test.YtondhmpdmbjmdaaDoorProg
import Derived.KernelRfl
import Derived.Test.YtondhmpdmbjmdaaDoorAvF
import Derived.Test.YtondhmpdmbjmdaaDoorFns11
set_option linter.unusedVariables false
set_option linter.unusedSimpArgs false
namespace Go.Av
open Go Go.Proofs
variable {K : AK} {env : Env} {H : AHeap}
/-! emendate.grammarfile.rule -/
def gF_rule_kl : Nat → List Nat
  | 0 => [0, 2]
  | 1 => [1, 3, 4, 5, 6, 7, 8, 9, 10, 11, 12]
  | _ => []
def gF_rule_ow : Nat → Nat → Bool := fun _ _ => false
def gF_rule_c0 : AC := .reg [⟨some 1, none, .box (.t 0) 2 41⟩, ⟨some 2, none, .mov (.c (.bool false))⟩] [0, 2]
@[simp] theorem gF_rule_c0_eq : aw PP gF_rule_c0 K env H = awOps PP [⟨some 1, none, .box (.t 0) 2 41⟩, ⟨some 2, none, .mov (.c (.bool false))⟩] (regK K [0, 2]) (panK K) env H := aw_reg _ _
def gF_rule_c1 : AC := .reg [⟨some 3, none, .fa 1 1 (.t 1)⟩, ⟨some 4, none, .ld false 1 (.t 3)⟩, ⟨some 5, none, .lenl (.t 4)⟩, ⟨some 6, none, .bin (.gtr) (.t 5) (.c (.int (.i64) 0))⟩, ⟨some 7, none, .mov (.t 6)⟩, ⟨some 8, some (7, true), .fa 1 1 (.t 1)⟩, ⟨some 9, some (7, true), .ld false 1 (.t 8)⟩, ⟨some 10, some (7, true), .call (.c (.fn (.func 53) [] [])) [.t 9, .c (.fn (.func 54) [] [])]⟩, ⟨some 11, some (7, true), .not (.t 10)⟩, ⟨some 12, none, .pick (.t 7) (.t 11) (.c (.bool false))⟩, ⟨some 2, none, .mov (.t 12)⟩] [1, 3, 4, 5, 6, 7, 8, 9, 10, 11, 12]
@[simp] theorem gF_rule_c1_eq : aw PP gF_rule_c1 K env H = awOps PP [⟨some 3, none, .fa 1 1 (.t 1)⟩, ⟨some 4, none, .ld false 1 (.t 3)⟩, ⟨some 5, none, .lenl (.t 4)⟩, ⟨some 6, none, .bin (.gtr) (.t 5) (.c (.int (.i64) 0))⟩, ⟨some 7, none, .mov (.t 6)⟩, ⟨some 8, some (7, true), .fa 1 1 (.t 1)⟩, ⟨some 9, some (7, true), .ld false 1 (.t 8)⟩, ⟨some 10, some (7, true), .call (.c (.fn (.func 53) [] [])) [.t 9, .c (.fn (.func 54) [] [])]⟩, ⟨some 11, some (7, true), .not (.t 10)⟩, ⟨some 12, none, .pick (.t 7) (.t 11) (.c (.bool false))⟩, ⟨some 2, none, .mov (.t 12)⟩] (regK K [1, 3, 4, 5, 6, 7, 8, 9, 10, 11, 12]) (panK K) env H := aw_reg _ _
def gF_rule_c2 : AC := .seq gF_rule_c1 .ret
@[simp] theorem gF_rule_c2_eq : aw PP gF_rule_c2 K env H = aw PP gF_rule_c1 (seqK PP .ret K) env H := aw_seq gF_rule_c1 .ret
def gF_rule_c3 : AC := .seq gF_rule_c0 gF_rule_c2
@[simp] theorem gF_rule_c3_eq : aw PP gF_rule_c3 K env H = aw PP gF_rule_c0 (seqK PP gF_rule_c2 K) env H := aw_seq gF_rule_c0 gF_rule_c2
def gF_rule_ac : AC := gF_rule_c3
@[simp] theorem gF_rule_ac_eq : aw PP gF_rule_ac K env H = aw PP gF_rule_c3 K env H := Eq.trans rfl rfl
def gF_rule_rs : List ARV := [.tmp 2]
abbrev gF_rule_id : Nat := 25
theorem gF_rule_comp : compF PP gF_rule_kl gF_rule_ow 1 Tryd.f25 = some (gF_rule_ac, gF_rule_rs) := by kernel_rfl
theorem gF_rule_enter {args : List AV} {H : AHeap} {post : ARes → AHeap → Prop} (ha : args.length = 1) (h : aw PP gF_rule_ac (retK gF_rule_rs post) (argEnv 0 args) H) : ACalls PP gF_rule_id args H post := .enterF Tryd.func25 PP_mix gF_rule_comp ha h

/-! emendate.grammarfile.distinct -/
def gF_distinct_kl : Nat → List Nat
  | 0 => [2]
  | 3 => [8, 9, 10, 11]
  | 4 => [3, 4, 12, 13, 14, 15, 16, 17, 18, 19, 20]
  | 5 => [0, 5, 6, 7, 21]
  | 6 => [21, 22]
  | 7 => [0, 5, 6, 7, 8]
  | _ => []
def gF_distinct_ow : Nat → Nat → Bool := fun _ _ => false
def gF_distinct_c0 : AC := .reg [⟨some 2, none, .mov (.c (.bool false))⟩] [2]
@[simp] theorem gF_distinct_c0_eq : aw PP gF_distinct_c0 K env H = awOps PP [⟨some 2, none, .mov (.c (.bool false))⟩] (regK K [2]) (panK K) env H := aw_reg _ _
def gF_distinct_c1 : AC := .reg [⟨some 5, none, .mov (.t 0)⟩, ⟨some 6, none, .lenl (.t 5)⟩, ⟨some 7, none, .mov (.c (.int (.i64) 0))⟩] []
@[simp] theorem gF_distinct_c1_eq : aw PP gF_distinct_c1 K env H = awOps PP [⟨some 5, none, .mov (.t 0)⟩, ⟨some 6, none, .lenl (.t 5)⟩, ⟨some 7, none, .mov (.c (.int (.i64) 0))⟩] (regK K []) (panK K) env H := aw_reg _ _
def gF_distinct_c2 : AC := .reg [⟨some 8, none, .bin (.lss) (.t 7) (.t 6)⟩] []
@[simp] theorem gF_distinct_c2_eq : aw PP gF_distinct_c2 K env H = awOps PP [⟨some 8, none, .bin (.lss) (.t 7) (.t 6)⟩] (regK K []) (panK K) env H := aw_reg _ _
def gF_distinct_c3 : AC := .cond (.t 8) .skip (.exit 0)
@[simp] theorem gF_distinct_c3_eq : aw PP gF_distinct_c3 K env H = condQ PP (Opd.ev env (.t 8)) .skip (.exit 0) K env H := aw_cond _ .skip (.exit 0)
def gF_distinct_c4 : AC := .reg [⟨some 9, none, .mov (.t 7)⟩, ⟨some 10, none, .ixa 1 (.t 5) (.t 7)⟩, ⟨some 11, none, .ld false 1 (.t 10)⟩, ⟨some 3, none, .mov (.t 9)⟩, ⟨some 4, none, .mov (.t 11)⟩] [8, 9, 10, 11]
@[simp] theorem gF_distinct_c4_eq : aw PP gF_distinct_c4 K env H = awOps PP [⟨some 9, none, .mov (.t 7)⟩, ⟨some 10, none, .ixa 1 (.t 5) (.t 7)⟩, ⟨some 11, none, .ld false 1 (.t 10)⟩, ⟨some 3, none, .mov (.t 9)⟩, ⟨some 4, none, .mov (.t 11)⟩] (regK K [8, 9, 10, 11]) (panK K) env H := aw_reg _ _
def gF_distinct_c5 : AC := .reg [⟨some 12, none, .mov (.t 4)⟩, ⟨some 13, none, .call (.c (.fn (.func 56) [] [])) [.t 12]⟩, ⟨some 14, none, .not (.t 13)⟩, ⟨some 15, none, .mov (.t 14)⟩, ⟨some 16, some (15, false), .mov (.t 0)⟩, ⟨some 17, some (15, false), .mov (.t 3)⟩, ⟨some 18, some (15, false), .sll 1 (.t 16) none (some (.t 17))⟩, ⟨some 19, some (15, false), .mov (.t 4)⟩, ⟨some 20, some (15, false), .call (.c (.fn (.func 27) [] [])) [.t 18, .t 19]⟩, ⟨some 21, none, .pick (.t 15) (.c (.bool true)) (.t 20)⟩] [3, 4, 12, 13, 14, 15, 16, 17, 18, 19, 20]
@[simp] theorem gF_distinct_c5_eq : aw PP gF_distinct_c5 K env H = awOps PP [⟨some 12, none, .mov (.t 4)⟩, ⟨some 13, none, .call (.c (.fn (.func 56) [] [])) [.t 12]⟩, ⟨some 14, none, .not (.t 13)⟩, ⟨some 15, none, .mov (.t 14)⟩, ⟨some 16, some (15, false), .mov (.t 0)⟩, ⟨some 17, some (15, false), .mov (.t 3)⟩, ⟨some 18, some (15, false), .sll 1 (.t 16) none (some (.t 17))⟩, ⟨some 19, some (15, false), .mov (.t 4)⟩, ⟨some 20, some (15, false), .call (.c (.fn (.func 27) [] [])) [.t 18, .t 19]⟩, ⟨some 21, none, .pick (.t 15) (.c (.bool true)) (.t 20)⟩] (regK K [3, 4, 12, 13, 14, 15, 16, 17, 18, 19, 20]) (panK K) env H := aw_reg _ _
def gF_distinct_c6 : AC := .reg [⟨some 2, none, .mov (.c (.bool false))⟩] [0, 5, 6, 7, 21]
@[simp] theorem gF_distinct_c6_eq : aw PP gF_distinct_c6 K env H = awOps PP [⟨some 2, none, .mov (.c (.bool false))⟩] (regK K [0, 5, 6, 7, 21]) (panK K) env H := aw_reg _ _
def gF_distinct_c7 : AC := .seq gF_distinct_c6 .ret
@[simp] theorem gF_distinct_c7_eq : aw PP gF_distinct_c7 K env H = aw PP gF_distinct_c6 (seqK PP .ret K) env H := aw_seq gF_distinct_c6 .ret
def gF_distinct_c8 : AC := .cond (.t 21) gF_distinct_c7 .skip
@[simp] theorem gF_distinct_c8_eq : aw PP gF_distinct_c8 K env H = condQ PP (Opd.ev env (.t 21)) gF_distinct_c7 .skip K env H := aw_cond _ gF_distinct_c7 .skip
def gF_distinct_c9 : AC := .seq gF_distinct_c5 gF_distinct_c8
@[simp] theorem gF_distinct_c9_eq : aw PP gF_distinct_c9 K env H = aw PP gF_distinct_c5 (seqK PP gF_distinct_c8 K) env H := aw_seq gF_distinct_c5 gF_distinct_c8
def gF_distinct_c10 : AC := .seq gF_distinct_c4 gF_distinct_c9
@[simp] theorem gF_distinct_c10_eq : aw PP gF_distinct_c10 K env H = aw PP gF_distinct_c4 (seqK PP gF_distinct_c9 K) env H := aw_seq gF_distinct_c4 gF_distinct_c9
def gF_distinct_c11 : AC := .block 1 gF_distinct_c10
@[simp] theorem gF_distinct_c11_eq : aw PP gF_distinct_c11 K env H = aw PP gF_distinct_c10 (blockK 1 K) env H := aw_block _ gF_distinct_c10
def gF_distinct_c12 : AC := .reg [⟨some 22, none, .bin (.add) (.t 7) (.c (.int (.i64) 1))⟩, ⟨some 7, none, .mov (.t 22)⟩] [21, 22]
@[simp] theorem gF_distinct_c12_eq : aw PP gF_distinct_c12 K env H = awOps PP [⟨some 22, none, .bin (.add) (.t 7) (.c (.int (.i64) 1))⟩, ⟨some 7, none, .mov (.t 22)⟩] (regK K [21, 22]) (panK K) env H := aw_reg _ _
def gF_distinct_c13 : AC := .seq gF_distinct_c11 gF_distinct_c12
@[simp] theorem gF_distinct_c13_eq : aw PP gF_distinct_c13 K env H = aw PP gF_distinct_c11 (seqK PP gF_distinct_c12 K) env H := aw_seq gF_distinct_c11 gF_distinct_c12
def gF_distinct_c14 : AC := .seq gF_distinct_c3 gF_distinct_c13
@[simp] theorem gF_distinct_c14_eq : aw PP gF_distinct_c14 K env H = aw PP gF_distinct_c3 (seqK PP gF_distinct_c13 K) env H := aw_seq gF_distinct_c3 gF_distinct_c13
def gF_distinct_c15 : AC := .seq gF_distinct_c2 gF_distinct_c14
@[simp] theorem gF_distinct_c15_eq : aw PP gF_distinct_c15 K env H = aw PP gF_distinct_c2 (seqK PP gF_distinct_c14 K) env H := aw_seq gF_distinct_c2 gF_distinct_c14
def gF_distinct_c16 : AC := .loop gF_distinct_c15
def gF_distinct_c17 : AC := .block 0 gF_distinct_c16
@[simp] theorem gF_distinct_c17_eq : aw PP gF_distinct_c17 K env H = aw PP gF_distinct_c16 (blockK 0 K) env H := aw_block _ gF_distinct_c16
def gF_distinct_c18 : AC := .seq gF_distinct_c1 gF_distinct_c17
@[simp] theorem gF_distinct_c18_eq : aw PP gF_distinct_c18 K env H = aw PP gF_distinct_c1 (seqK PP gF_distinct_c17 K) env H := aw_seq gF_distinct_c1 gF_distinct_c17
def gF_distinct_c19 : AC := .reg [⟨some 2, none, .mov (.c (.bool true))⟩] [0, 5, 6, 7, 8]
@[simp] theorem gF_distinct_c19_eq : aw PP gF_distinct_c19 K env H = awOps PP [⟨some 2, none, .mov (.c (.bool true))⟩] (regK K [0, 5, 6, 7, 8]) (panK K) env H := aw_reg _ _
def gF_distinct_c20 : AC := .seq gF_distinct_c19 .ret
@[simp] theorem gF_distinct_c20_eq : aw PP gF_distinct_c20 K env H = aw PP gF_distinct_c19 (seqK PP .ret K) env H := aw_seq gF_distinct_c19 .ret
def gF_distinct_c21 : AC := .seq gF_distinct_c18 gF_distinct_c20
@[simp] theorem gF_distinct_c21_eq : aw PP gF_distinct_c21 K env H = aw PP gF_distinct_c18 (seqK PP gF_distinct_c20 K) env H := aw_seq gF_distinct_c18 gF_distinct_c20
def gF_distinct_c22 : AC := .seq gF_distinct_c0 gF_distinct_c21
@[simp] theorem gF_distinct_c22_eq : aw PP gF_distinct_c22 K env H = aw PP gF_distinct_c0 (seqK PP gF_distinct_c21 K) env H := aw_seq gF_distinct_c0 gF_distinct_c21
def gF_distinct_ac : AC := gF_distinct_c22
@[simp] theorem gF_distinct_ac_eq : aw PP gF_distinct_ac K env H = aw PP gF_distinct_c22 K env H := Eq.trans rfl rfl
def gF_distinct_rs : List ARV := [.tmp 2]
abbrev gF_distinct_id : Nat := 26
theorem gF_distinct_comp : compF PP gF_distinct_kl gF_distinct_ow 1 Tryd.f26 = some (gF_distinct_ac, gF_distinct_rs) := by kernel_rfl
theorem gF_distinct_enter {args : List AV} {H : AHeap} {post : ARes → AHeap → Prop} (ha : args.length = 1) (h : aw PP gF_distinct_ac (retK gF_distinct_rs post) (argEnv 0 args) H) : ACalls PP gF_distinct_id args H post := .enterF Tryd.func26 PP_mix gF_distinct_comp ha h

/-! slices.Contains[[]string,string] -/
def sl_Contains_string_kl : Nat → List Nat
  | 0 => [4]
  | 1 => [0, 1, 5, 6, 7, 8]
  | _ => []
def sl_Contains_string_ow : Nat → Nat → Bool := fun _ _ => false
def sl_Contains_string_c0 : AC := .reg [⟨some 4, none, .mov (.c (.bool false))⟩] [4]
@[simp] theorem sl_Contains_string_c0_eq : aw PP sl_Contains_string_c0 K env H = awOps PP [⟨some 4, none, .mov (.c (.bool false))⟩] (regK K [4]) (panK K) env H := aw_reg _ _
def sl_Contains_string_c1 : AC := .reg [⟨some 5, none, .mov (.t 0)⟩, ⟨some 6, none, .mov (.t 1)⟩, ⟨some 7, none, .call (.c (.fn (.func 57) [] [])) [.t 5, .t 6]⟩, ⟨some 8, none, .bin (.geq) (.t 7) (.c (.int (.i64) 0))⟩, ⟨some 4, none, .mov (.t 8)⟩] [0, 1, 5, 6, 7, 8]
@[simp] theorem sl_Contains_string_c1_eq : aw PP sl_Contains_string_c1 K env H = awOps PP [⟨some 5, none, .mov (.t 0)⟩, ⟨some 6, none, .mov (.t 1)⟩, ⟨some 7, none, .call (.c (.fn (.func 57) [] [])) [.t 5, .t 6]⟩, ⟨some 8, none, .bin (.geq) (.t 7) (.c (.int (.i64) 0))⟩, ⟨some 4, none, .mov (.t 8)⟩] (regK K [0, 1, 5, 6, 7, 8]) (panK K) env H := aw_reg _ _
def sl_Contains_string_c2 : AC := .seq sl_Contains_string_c1 .ret
@[simp] theorem sl_Contains_string_c2_eq : aw PP sl_Contains_string_c2 K env H = aw PP sl_Contains_string_c1 (seqK PP .ret K) env H := aw_seq sl_Contains_string_c1 .ret
def sl_Contains_string_c3 : AC := .seq sl_Contains_string_c0 sl_Contains_string_c2
@[simp] theorem sl_Contains_string_c3_eq : aw PP sl_Contains_string_c3 K env H = aw PP sl_Contains_string_c0 (seqK PP sl_Contains_string_c2 K) env H := aw_seq sl_Contains_string_c0 sl_Contains_string_c2
def sl_Contains_string_ac : AC := sl_Contains_string_c3
@[simp] theorem sl_Contains_string_ac_eq : aw PP sl_Contains_string_ac K env H = aw PP sl_Contains_string_c3 K env H := Eq.trans rfl rfl
def sl_Contains_string_rs : List ARV := [.tmp 4]
abbrev sl_Contains_string_id : Nat := 27
theorem sl_Contains_string_comp : compF PP sl_Contains_string_kl sl_Contains_string_ow 2 Tryd.f27 = some (sl_Contains_string_ac, sl_Contains_string_rs) := by kernel_rfl
theorem sl_Contains_string_enter {args : List AV} {H : AHeap} {post : ARes → AHeap → Prop} (ha : args.length = 2) (h : aw PP sl_Contains_string_ac (retK sl_Contains_string_rs post) (argEnv 0 args) H) : ACalls PP sl_Contains_string_id args H post := .enterF Tryd.func27 PP_mix sl_Contains_string_comp ha h

/-! emendate.emendateref16.Name -/
def r6_Name_kl : Nat → List Nat
  | 0 => [2]
  | 2 => [5, 6, 7]
  | 3 => [9, 10, 56]
  | 4 => [8, 11, 12, 13, 14, 15, 16, 17, 18, 19, 20, 21, 22, 23, 24, 25, 26, 27, 28, 29, 30, 31, 32]
  | 5 => [4, 33, 34, 35, 36, 37, 38, 39, 40, 41, 42, 43, 44, 45, 46, 47, 48, 49, 50, 51, 52, 53, 54, 55]
  | 6 => [0, 3, 56]
  | 7 => [0, 3, 8, 57, 58, 59, 60, 61, 62, 63, 64, 65, 66, 67, 68, 69, 70, 71, 72, 73, 74, 75, 76, 77, 78, 79, 80, 81, 82, 83]
  | _ => []
def r6_Name_ow : Nat → Nat → Bool := fun _ _ => false
def r6_Name_c0 : AC := .reg [⟨some 2, none, .mov (.c (.bool false))⟩] [2]
@[simp] theorem r6_Name_c0_eq : aw PP r6_Name_c0 K env H = awOps PP [⟨some 2, none, .mov (.c (.bool false))⟩] (regK K [2]) (panK K) env H := aw_reg _ _
def r6_Name_c1 : AC := .reg [⟨some 3, none, .mov (.c (.int (.i64) 0))⟩] []
@[simp] theorem r6_Name_c1_eq : aw PP r6_Name_c1 K env H = awOps PP [⟨some 3, none, .mov (.c (.int (.i64) 0))⟩] (regK K []) (panK K) env H := aw_reg _ _
def r6_Name_c2 : AC := .reg [⟨some 5, none, .mov (.t 3)⟩, ⟨some 6, none, .mov (.t 0)⟩, ⟨some 7, none, .lens (.t 6)⟩, ⟨some 8, none, .bin (.lss) (.t 5) (.t 7)⟩] [5, 6, 7]
@[simp] theorem r6_Name_c2_eq : aw PP r6_Name_c2 K env H = awOps PP [⟨some 5, none, .mov (.t 3)⟩, ⟨some 6, none, .mov (.t 0)⟩, ⟨some 7, none, .lens (.t 6)⟩, ⟨some 8, none, .bin (.lss) (.t 5) (.t 7)⟩] (regK K [5, 6, 7]) (panK K) env H := aw_reg _ _
def r6_Name_c3 : AC := .cond (.t 8) .skip (.exit 0)
@[simp] theorem r6_Name_c3_eq : aw PP r6_Name_c3 K env H = condQ PP (Opd.ev env (.t 8)) .skip (.exit 0) K env H := aw_cond _ .skip (.exit 0)
def r6_Name_c4 : AC := .seq r6_Name_c2 r6_Name_c3
@[simp] theorem r6_Name_c4_eq : aw PP r6_Name_c4 K env H = aw PP r6_Name_c2 (seqK PP r6_Name_c3 K) env H := aw_seq r6_Name_c2 r6_Name_c3
def r6_Name_c5 : AC := .reg [⟨some 11, none, .mov (.t 0)⟩, ⟨some 12, none, .mov (.t 3)⟩, ⟨some 13, none, .ix (.t 11) (.t 12)⟩, ⟨some 14, none, .bin (.geq) (.t 13) (.c (.int (.u8) 97))⟩, ⟨some 15, none, .mov (.t 14)⟩, ⟨some 16, some (15, true), .mov (.t 0)⟩, ⟨some 17, some (15, true), .mov (.t 3)⟩, ⟨some 18, some (15, true), .ix (.t 16) (.t 17)⟩, ⟨some 19, some (15, true), .bin (.leq) (.t 18) (.c (.int (.u8) 122))⟩, ⟨some 20, none, .pick (.t 15) (.t 19) (.c (.bool false))⟩, ⟨some 21, none, .mov (.t 20)⟩, ⟨some 22, some (21, false), .mov (.t 0)⟩, ⟨some 23, some (21, false), .mov (.t 3)⟩, ⟨some 24, some (21, false), .ix (.t 22) (.t 23)⟩, ⟨some 25, some (21, false), .bin (.geq) (.t 24) (.c (.int (.u8) 65))⟩, ⟨some 26, some (21, false), .mov (.t 25)⟩, ⟨some 27, some (26, true), .mov (.t 0)⟩, ⟨some 28, some (26, true), .mov (.t 3)⟩, ⟨some 29, some (26, true), .ix (.t 27) (.t 28)⟩, ⟨some 30, some (26, true), .bin (.leq) (.t 29) (.c (.int (.u8) 90))⟩, ⟨some 31, some (21, false), .pick (.t 26) (.t 30) (.c (.bool false))⟩, ⟨some 32, none, .pick (.t 21) (.c (.bool true)) (.t 31)⟩, ⟨some 4, none, .mov (.t 32)⟩] [8, 11, 12, 13, 14, 15, 16, 17, 18, 19, 20, 21, 22, 23, 24, 25, 26, 27, 28, 29, 30, 31, 32]
@[simp] theorem r6_Name_c5_eq : aw PP r6_Name_c5 K env H = awOps PP [⟨some 11, none, .mov (.t 0)⟩, ⟨some 12, none, .mov (.t 3)⟩, ⟨some 13, none, .ix (.t 11) (.t 12)⟩, ⟨some 14, none, .bin (.geq) (.t 13) (.c (.int (.u8) 97))⟩, ⟨some 15, none, .mov (.t 14)⟩, ⟨some 16, some (15, true), .mov (.t 0)⟩, ⟨some 17, some (15, true), .mov (.t 3)⟩, ⟨some 18, some (15, true), .ix (.t 16) (.t 17)⟩, ⟨some 19, some (15, true), .bin (.leq) (.t 18) (.c (.int (.u8) 122))⟩, ⟨some 20, none, .pick (.t 15) (.t 19) (.c (.bool false))⟩, ⟨some 21, none, .mov (.t 20)⟩, ⟨some 22, some (21, false), .mov (.t 0)⟩, ⟨some 23, some (21, false), .mov (.t 3)⟩, ⟨some 24, some (21, false), .ix (.t 22) (.t 23)⟩, ⟨some 25, some (21, false), .bin (.geq) (.t 24) (.c (.int (.u8) 65))⟩, ⟨some 26, some (21, false), .mov (.t 25)⟩, ⟨some 27, some (26, true), .mov (.t 0)⟩, ⟨some 28, some (26, true), .mov (.t 3)⟩, ⟨some 29, some (26, true), .ix (.t 27) (.t 28)⟩, ⟨some 30, some (26, true), .bin (.leq) (.t 29) (.c (.int (.u8) 90))⟩, ⟨some 31, some (21, false), .pick (.t 26) (.t 30) (.c (.bool false))⟩, ⟨some 32, none, .pick (.t 21) (.c (.bool true)) (.t 31)⟩, ⟨some 4, none, .mov (.t 32)⟩] (regK K [8, 11, 12, 13, 14, 15, 16, 17, 18, 19, 20, 21, 22, 23, 24, 25, 26, 27, 28, 29, 30, 31, 32]) (panK K) env H := aw_reg _ _
def r6_Name_c6 : AC := .reg [⟨some 33, none, .mov (.t 4)⟩, ⟨some 34, none, .not (.t 33)⟩, ⟨some 35, none, .mov (.t 34)⟩, ⟨some 36, some (35, true), .mov (.t 3)⟩, ⟨some 37, some (35, true), .bin (.eql) (.t 36) (.c (.int (.i64) 0))⟩, ⟨some 38, some (35, true), .mov (.t 37)⟩, ⟨some 39, some (38, false), .mov (.t 0)⟩, ⟨some 40, some (38, false), .mov (.t 3)⟩, ⟨some 41, some (38, false), .ix (.t 39) (.t 40)⟩, ⟨some 42, some (38, false), .bin (.lss) (.t 41) (.c (.int (.u8) 48))⟩, ⟨some 43, some (38, false), .mov (.t 42)⟩, ⟨some 44, some (43, false), .mov (.t 0)⟩, ⟨some 45, some (43, false), .mov (.t 3)⟩, ⟨some 46, some (43, false), .ix (.t 44) (.t 45)⟩, ⟨some 47, some (43, false), .bin (.gtr) (.t 46) (.c (.int (.u8) 57))⟩, ⟨some 48, some (38, false), .pick (.t 43) (.c (.bool true)) (.t 47)⟩, ⟨some 49, some (38, false), .mov (.t 48)⟩, ⟨some 50, some (49, true), .mov (.t 0)⟩, ⟨some 51, some (49, true), .mov (.t 3)⟩, ⟨some 52, some (49, true), .ix (.t 50) (.t 51)⟩, ⟨some 53, some (49, true), .bin (.neq) (.t 52) (.c (.int (.u8) 95))⟩, ⟨some 54, some (38, false), .pick (.t 49) (.t 53) (.c (.bool false))⟩, ⟨some 55, some (35, true), .pick (.t 38) (.c (.bool true)) (.t 54)⟩, ⟨some 56, none, .pick (.t 35) (.t 55) (.c (.bool false))⟩] [4, 33, 34, 35, 36, 37, 38, 39, 40, 41, 42, 43, 44, 45, 46, 47, 48, 49, 50, 51, 52, 53, 54, 55]
@[simp] theorem r6_Name_c6_eq : aw PP r6_Name_c6 K env H = awOps PP [⟨some 33, none, .mov (.t 4)⟩, ⟨some 34, none, .not (.t 33)⟩, ⟨some 35, none, .mov (.t 34)⟩, ⟨some 36, some (35, true), .mov (.t 3)⟩, ⟨some 37, some (35, true), .bin (.eql) (.t 36) (.c (.int (.i64) 0))⟩, ⟨some 38, some (35, true), .mov (.t 37)⟩, ⟨some 39, some (38, false), .mov (.t 0)⟩, ⟨some 40, some (38, false), .mov (.t 3)⟩, ⟨some 41, some (38, false), .ix (.t 39) (.t 40)⟩, ⟨some 42, some (38, false), .bin (.lss) (.t 41) (.c (.int (.u8) 48))⟩, ⟨some 43, some (38, false), .mov (.t 42)⟩, ⟨some 44, some (43, false), .mov (.t 0)⟩, ⟨some 45, some (43, false), .mov (.t 3)⟩, ⟨some 46, some (43, false), .ix (.t 44) (.t 45)⟩, ⟨some 47, some (43, false), .bin (.gtr) (.t 46) (.c (.int (.u8) 57))⟩, ⟨some 48, some (38, false), .pick (.t 43) (.c (.bool true)) (.t 47)⟩, ⟨some 49, some (38, false), .mov (.t 48)⟩, ⟨some 50, some (49, true), .mov (.t 0)⟩, ⟨some 51, some (49, true), .mov (.t 3)⟩, ⟨some 52, some (49, true), .ix (.t 50) (.t 51)⟩, ⟨some 53, some (49, true), .bin (.neq) (.t 52) (.c (.int (.u8) 95))⟩, ⟨some 54, some (38, false), .pick (.t 49) (.t 53) (.c (.bool false))⟩, ⟨some 55, some (35, true), .pick (.t 38) (.c (.bool true)) (.t 54)⟩, ⟨some 56, none, .pick (.t 35) (.t 55) (.c (.bool false))⟩] (regK K [4, 33, 34, 35, 36, 37, 38, 39, 40, 41, 42, 43, 44, 45, 46, 47, 48, 49, 50, 51, 52, 53, 54, 55]) (panK K) env H := aw_reg _ _
def r6_Name_c7 : AC := .reg [⟨some 2, none, .mov (.c (.bool false))⟩] [0, 3, 56]
@[simp] theorem r6_Name_c7_eq : aw PP r6_Name_c7 K env H = awOps PP [⟨some 2, none, .mov (.c (.bool false))⟩] (regK K [0, 3, 56]) (panK K) env H := aw_reg _ _
def r6_Name_c8 : AC := .seq r6_Name_c7 .ret
@[simp] theorem r6_Name_c8_eq : aw PP r6_Name_c8 K env H = aw PP r6_Name_c7 (seqK PP .ret K) env H := aw_seq r6_Name_c7 .ret
def r6_Name_c9 : AC := .cond (.t 56) r6_Name_c8 .skip
@[simp] theorem r6_Name_c9_eq : aw PP r6_Name_c9 K env H = condQ PP (Opd.ev env (.t 56)) r6_Name_c8 .skip K env H := aw_cond _ r6_Name_c8 .skip
def r6_Name_c10 : AC := .seq r6_Name_c6 r6_Name_c9
@[simp] theorem r6_Name_c10_eq : aw PP r6_Name_c10 K env H = aw PP r6_Name_c6 (seqK PP r6_Name_c9 K) env H := aw_seq r6_Name_c6 r6_Name_c9
def r6_Name_c11 : AC := .seq r6_Name_c5 r6_Name_c10
@[simp] theorem r6_Name_c11_eq : aw PP r6_Name_c11 K env H = aw PP r6_Name_c5 (seqK PP r6_Name_c10 K) env H := aw_seq r6_Name_c5 r6_Name_c10
def r6_Name_c12 : AC := .block 1 r6_Name_c11
@[simp] theorem r6_Name_c12_eq : aw PP r6_Name_c12 K env H = aw PP r6_Name_c11 (blockK 1 K) env H := aw_block _ r6_Name_c11
def r6_Name_c13 : AC := .reg [⟨some 9, none, .mov (.t 3)⟩, ⟨some 10, none, .bin (.add) (.t 9) (.c (.int (.i64) 1))⟩, ⟨some 3, none, .mov (.t 10)⟩] [9, 10, 56]
@[simp] theorem r6_Name_c13_eq : aw PP r6_Name_c13 K env H = awOps PP [⟨some 9, none, .mov (.t 3)⟩, ⟨some 10, none, .bin (.add) (.t 9) (.c (.int (.i64) 1))⟩, ⟨some 3, none, .mov (.t 10)⟩] (regK K [9, 10, 56]) (panK K) env H := aw_reg _ _
def r6_Name_c14 : AC := .seq r6_Name_c12 r6_Name_c13
@[simp] theorem r6_Name_c14_eq : aw PP r6_Name_c14 K env H = aw PP r6_Name_c12 (seqK PP r6_Name_c13 K) env H := aw_seq r6_Name_c12 r6_Name_c13
def r6_Name_c15 : AC := .seq r6_Name_c4 r6_Name_c14
@[simp] theorem r6_Name_c15_eq : aw PP r6_Name_c15 K env H = aw PP r6_Name_c4 (seqK PP r6_Name_c14 K) env H := aw_seq r6_Name_c4 r6_Name_c14
def r6_Name_c16 : AC := .loop r6_Name_c15
def r6_Name_c17 : AC := .block 0 r6_Name_c16
@[simp] theorem r6_Name_c17_eq : aw PP r6_Name_c17 K env H = aw PP r6_Name_c16 (blockK 0 K) env H := aw_block _ r6_Name_c16
def r6_Name_c18 : AC := .seq r6_Name_c1 r6_Name_c17
@[simp] theorem r6_Name_c18_eq : aw PP r6_Name_c18 K env H = aw PP r6_Name_c1 (seqK PP r6_Name_c17 K) env H := aw_seq r6_Name_c1 r6_Name_c17
def r6_Name_c19 : AC := .reg [⟨some 57, none, .mov (.t 0)⟩, ⟨some 58, none, .bin (.neq) (.t 57) (.c (.str []))⟩, ⟨some 59, none, .mov (.t 58)⟩, ⟨some 60, some (59, true), .mov (.t 0)⟩, ⟨some 61, some (59, true), .lens (.t 60)⟩, ⟨some 62, some (59, true), .bin (.leq) (.t 61) (.c (.int (.i64) 24))⟩, ⟨some 63, none, .pick (.t 59) (.t 62) (.c (.bool false))⟩, ⟨some 64, none, .mov (.t 63)⟩, ⟨some 65, some (64, true), .mov (.t 0)⟩, ⟨some 66, some (64, true), .bin (.neq) (.t 65) (.c (.str [115, 116, 97, 114, 116]))⟩, ⟨some 67, none, .pick (.t 64) (.t 66) (.c (.bool false))⟩, ⟨some 68, none, .mov (.t 67)⟩, ⟨some 69, some (68, true), .mov (.t 0)⟩, ⟨some 70, some (68, true), .bin (.neq) (.t 69) (.c (.str [108, 101, 102, 116]))⟩, ⟨some 71, none, .pick (.t 68) (.t 70) (.c (.bool false))⟩, ⟨some 72, none, .mov (.t 71)⟩, ⟨some 73, some (72, true), .mov (.t 0)⟩, ⟨some 74, some (72, true), .bin (.neq) (.t 73) (.c (.str [114, 105, 103, 104, 116]))⟩, ⟨some 75, none, .pick (.t 72) (.t 74) (.c (.bool false))⟩, ⟨some 76, none, .mov (.t 75)⟩, ⟨some 77, some (76, true), .mov (.t 0)⟩, ⟨some 78, some (76, true), .bin (.neq) (.t 77) (.c (.str [110, 111, 110, 101]))⟩, ⟨some 79, none, .pick (.t 76) (.t 78) (.c (.bool false))⟩, ⟨some 80, none, .mov (.t 79)⟩, ⟨some 81, some (80, true), .mov (.t 0)⟩, ⟨some 82, some (80, true), .bin (.neq) (.t 81) (.c (.str [112, 114, 105, 99, 101]))⟩, ⟨some 83, none, .pick (.t 80) (.t 82) (.c (.bool false))⟩, ⟨some 2, none, .mov (.t 83)⟩] [0, 3, 8, 57, 58, 59, 60, 61, 62, 63, 64, 65, 66, 67, 68, 69, 70, 71, 72, 73, 74, 75, 76, 77, 78, 79, 80, 81, 82, 83]
@[simp] theorem r6_Name_c19_eq : aw PP r6_Name_c19 K env H = awOps PP [⟨some 57, none, .mov (.t 0)⟩, ⟨some 58, none, .bin (.neq) (.t 57) (.c (.str []))⟩, ⟨some 59, none, .mov (.t 58)⟩, ⟨some 60, some (59, true), .mov (.t 0)⟩, ⟨some 61, some (59, true), .lens (.t 60)⟩, ⟨some 62, some (59, true), .bin (.leq) (.t 61) (.c (.int (.i64) 24))⟩, ⟨some 63, none, .pick (.t 59) (.t 62) (.c (.bool false))⟩, ⟨some 64, none, .mov (.t 63)⟩, ⟨some 65, some (64, true), .mov (.t 0)⟩, ⟨some 66, some (64, true), .bin (.neq) (.t 65) (.c (.str [115, 116, 97, 114, 116]))⟩, ⟨some 67, none, .pick (.t 64) (.t 66) (.c (.bool false))⟩, ⟨some 68, none, .mov (.t 67)⟩, ⟨some 69, some (68, true), .mov (.t 0)⟩, ⟨some 70, some (68, true), .bin (.neq) (.t 69) (.c (.str [108, 101, 102, 116]))⟩, ⟨some 71, none, .pick (.t 68) (.t 70) (.c (.bool false))⟩, ⟨some 72, none, .mov (.t 71)⟩, ⟨some 73, some (72, true), .mov (.t 0)⟩, ⟨some 74, some (72, true), .bin (.neq) (.t 73) (.c (.str [114, 105, 103, 104, 116]))⟩, ⟨some 75, none, .pick (.t 72) (.t 74) (.c (.bool false))⟩, ⟨some 76, none, .mov (.t 75)⟩, ⟨some 77, some (76, true), .mov (.t 0)⟩, ⟨some 78, some (76, true), .bin (.neq) (.t 77) (.c (.str [110, 111, 110, 101]))⟩, ⟨some 79, none, .pick (.t 76) (.t 78) (.c (.bool false))⟩, ⟨some 80, none, .mov (.t 79)⟩, ⟨some 81, some (80, true), .mov (.t 0)⟩, ⟨some 82, some (80, true), .bin (.neq) (.t 81) (.c (.str [112, 114, 105, 99, 101]))⟩, ⟨some 83, none, .pick (.t 80) (.t 82) (.c (.bool false))⟩, ⟨some 2, none, .mov (.t 83)⟩] (regK K [0, 3, 8, 57, 58, 59, 60, 61, 62, 63, 64, 65, 66, 67, 68, 69, 70, 71, 72, 73, 74, 75, 76, 77, 78, 79, 80, 81, 82, 83]) (panK K) env H := aw_reg _ _
def r6_Name_c20 : AC := .seq r6_Name_c19 .ret
@[simp] theorem r6_Name_c20_eq : aw PP r6_Name_c20 K env H = aw PP r6_Name_c19 (seqK PP .ret K) env H := aw_seq r6_Name_c19 .ret
def r6_Name_c21 : AC := .seq r6_Name_c18 r6_Name_c20
@[simp] theorem r6_Name_c21_eq : aw PP r6_Name_c21 K env H = aw PP r6_Name_c18 (seqK PP r6_Name_c20 K) env H := aw_seq r6_Name_c18 r6_Name_c20
def r6_Name_c22 : AC := .seq r6_Name_c0 r6_Name_c21
@[simp] theorem r6_Name_c22_eq : aw PP r6_Name_c22 K env H = aw PP r6_Name_c0 (seqK PP r6_Name_c21 K) env H := aw_seq r6_Name_c0 r6_Name_c21
def r6_Name_ac : AC := r6_Name_c22
@[simp] theorem r6_Name_ac_eq : aw PP r6_Name_ac K env H = aw PP r6_Name_c22 K env H := Eq.trans rfl rfl
def r6_Name_rs : List ARV := [.tmp 2]
abbrev r6_Name_id : Nat := 28
theorem r6_Name_comp : compF PP r6_Name_kl r6_Name_ow 1 Tryd.f28 = some (r6_Name_ac, r6_Name_rs) := by kernel_rfl
theorem r6_Name_enter {args : List AV} {H : AHeap} {post : ARes → AHeap → Prop} (ha : args.length = 1) (h : aw PP r6_Name_ac (retK r6_Name_rs post) (argEnv 0 args) H) : ACalls PP r6_Name_id args H post := .enterF Tryd.func28 PP_mix r6_Name_comp ha h

/-! emendate.emendateref16.Expr -/
def r6_Expr_kl : Nat → List Nat
  | 0 => [0, 4]
  | 1 => [6, 7, 8, 9, 10, 11, 12, 13, 14, 15, 16, 17, 18, 19, 20, 21, 22, 23, 24, 25]
  | 2 => [1, 2, 26]
  | 3 => [26, 27]
  | 4 => [29, 30, 31, 51]
  | 5 => [1, 2, 32]
  | 6 => [34]
  | 7 => [28, 33, 35, 36, 37, 38, 39, 40, 41, 42, 43]
  | 8 => [1, 2, 44]
  | 9 => [33, 46]
  | 10 => [28, 45, 47, 48, 49]
  | 11 => [1, 2, 50]
  | 12 => [28, 45, 52]
  | 13 => [51, 53, 54, 55]
  | 14 => [1, 2, 56]
  | 15 => [32, 44, 50, 56]
  | 16 => [57, 58, 59, 60]
  | 17 => [62, 63, 72]
  | 18 => [61, 64, 65, 66, 67, 68, 69, 70, 71]
  | 19 => [1, 2, 5, 72]
  | 20 => [1, 2, 5, 61]
  | _ => []
def r6_Expr_ow : Nat → Nat → Bool := fun _ _ => false
def r6_Expr_c0 : AC := .reg [⟨some 2, none, .box (.t 0) 3 33⟩, ⟨some 4, none, .mov (.c (.bool false))⟩] [0, 4]
@[simp] theorem r6_Expr_c0_eq : aw PP r6_Expr_c0 K env H = awOps PP [⟨some 2, none, .box (.t 0) 3 33⟩, ⟨some 4, none, .mov (.c (.bool false))⟩] (regK K [0, 4]) (panK K) env H := aw_reg _ _
def r6_Expr_c1 : AC := .reg [⟨some 6, none, .mov (.t 1)⟩, ⟨some 7, none, .bin (.lss) (.t 6) (.c (.int (.i64) 1))⟩, ⟨some 8, none, .mov (.t 7)⟩, ⟨some 9, some (8, false), .fa 0 0 (.t 2)⟩, ⟨some 10, some (8, false), .ld false 1 (.t 9)⟩, ⟨some 11, some (8, false), .bin (.lss) (.t 10) (.c (.int (.i64) 1))⟩, ⟨some 12, none, .pick (.t 8) (.c (.bool true)) (.t 11)⟩, ⟨some 13, none, .mov (.t 12)⟩, ⟨some 14, some (13, false), .fa 0 0 (.t 2)⟩, ⟨some 15, some (13, false), .ld false 1 (.t 14)⟩, ⟨some 16, some (13, false), .bin (.gtr) (.t 15) (.c (.int (.i64) 6))⟩, ⟨some 17, none, .pick (.t 13) (.c (.bool true)) (.t 16)⟩, ⟨some 18, none, .mov (.t 17)⟩, ⟨some 19, some (18, false), .fa 0 0 (.t 2)⟩, ⟨some 20, some (18, false), .ld false 1 (.t 19)⟩, ⟨some 21, some (18, false), .bin (.eql) (.t 20) (.c (.int (.i64) 1))⟩, ⟨some 22, some (18, false), .fa 1 1 (.t 2)⟩, ⟨some 23, some (18, false), .ld false 1 (.t 22)⟩, ⟨some 24, some (18, false), .bin (.neq) (.t 23) (.c (.str []))⟩, ⟨some 25, some (18, false), .beq true (.t 21) (.t 24)⟩, ⟨some 26, none, .pick (.t 18) (.c (.bool true)) (.t 25)⟩] [6, 7, 8, 9, 10, 11, 12, 13, 14, 15, 16, 17, 18, 19, 20, 21, 22, 23, 24, 25]
@[simp] theorem r6_Expr_c1_eq : aw PP r6_Expr_c1 K env H = awOps PP [⟨some 6, none, .mov (.t 1)⟩, ⟨some 7, none, .bin (.lss) (.t 6) (.c (.int (.i64) 1))⟩, ⟨some 8, none, .mov (.t 7)⟩, ⟨some 9, some (8, false), .fa 0 0 (.t 2)⟩, ⟨some 10, some (8, false), .ld false 1 (.t 9)⟩, ⟨some 11, some (8, false), .bin (.lss) (.t 10) (.c (.int (.i64) 1))⟩, ⟨some 12, none, .pick (.t 8) (.c (.bool true)) (.t 11)⟩, ⟨some 13, none, .mov (.t 12)⟩, ⟨some 14, some (13, false), .fa 0 0 (.t 2)⟩, ⟨some 15, some (13, false), .ld false 1 (.t 14)⟩, ⟨some 16, some (13, false), .bin (.gtr) (.t 15) (.c (.int (.i64) 6))⟩, ⟨some 17, none, .pick (.t 13) (.c (.bool true)) (.t 16)⟩, ⟨some 18, none, .mov (.t 17)⟩, ⟨some 19, some (18, false), .fa 0 0 (.t 2)⟩, ⟨some 20, some (18, false), .ld false 1 (.t 19)⟩, ⟨some 21, some (18, false), .bin (.eql) (.t 20) (.c (.int (.i64) 1))⟩, ⟨some 22, some (18, false), .fa 1 1 (.t 2)⟩, ⟨some 23, some (18, false), .ld false 1 (.t 22)⟩, ⟨some 24, some (18, false), .bin (.neq) (.t 23) (.c (.str []))⟩, ⟨some 25, some (18, false), .beq true (.t 21) (.t 24)⟩, ⟨some 26, none, .pick (.t 18) (.c (.bool true)) (.t 25)⟩] (regK K [6, 7, 8, 9, 10, 11, 12, 13, 14, 15, 16, 17, 18, 19, 20, 21, 22, 23, 24, 25]) (panK K) env H := aw_reg _ _
def r6_Expr_c2 : AC := .reg [⟨some 4, none, .mov (.c (.bool false))⟩] [1, 2, 26]
@[simp] theorem r6_Expr_c2_eq : aw PP r6_Expr_c2 K env H = awOps PP [⟨some 4, none, .mov (.c (.bool false))⟩] (regK K [1, 2, 26]) (panK K) env H := aw_reg _ _
def r6_Expr_c3 : AC := .seq r6_Expr_c2 .ret
@[simp] theorem r6_Expr_c3_eq : aw PP r6_Expr_c3 K env H = aw PP r6_Expr_c2 (seqK PP .ret K) env H := aw_seq r6_Expr_c2 .ret
def r6_Expr_c4 : AC := .cond (.t 26) r6_Expr_c3 .skip
@[simp] theorem r6_Expr_c4_eq : aw PP r6_Expr_c4 K env H = condQ PP (Opd.ev env (.t 26)) r6_Expr_c3 .skip K env H := aw_cond _ r6_Expr_c3 .skip
def r6_Expr_c5 : AC := .seq r6_Expr_c1 r6_Expr_c4
@[simp] theorem r6_Expr_c5_eq : aw PP r6_Expr_c5 K env H = aw PP r6_Expr_c1 (seqK PP r6_Expr_c4 K) env H := aw_seq r6_Expr_c1 r6_Expr_c4
def r6_Expr_c6 : AC := .reg [⟨some 27, none, .fa 0 0 (.t 2)⟩, ⟨some 28, none, .ld false 1 (.t 27)⟩] [26, 27]
@[simp] theorem r6_Expr_c6_eq : aw PP r6_Expr_c6 K env H = awOps PP [⟨some 27, none, .fa 0 0 (.t 2)⟩, ⟨some 28, none, .ld false 1 (.t 27)⟩] (regK K [26, 27]) (panK K) env H := aw_reg _ _
def r6_Expr_c7 : AC := .reg [⟨some 34, none, .bin (.eql) (.t 28) (.c (.int (.i64) 1))⟩, ⟨some 33, none, .mov (.t 34)⟩] [34]
@[simp] theorem r6_Expr_c7_eq : aw PP r6_Expr_c7 K env H = awOps PP [⟨some 34, none, .bin (.eql) (.t 28) (.c (.int (.i64) 1))⟩, ⟨some 33, none, .mov (.t 34)⟩] (regK K [34]) (panK K) env H := aw_reg _ _
def r6_Expr_c8 : AC := .reg [⟨some 35, none, .fa 1 1 (.t 2)⟩, ⟨some 36, none, .ld false 1 (.t 35)⟩, ⟨some 37, none, .call (.c (.fn (.func 28) [] [])) [.t 36]⟩, ⟨some 38, none, .not (.t 37)⟩, ⟨some 39, none, .mov (.t 38)⟩, ⟨some 40, some (39, false), .fa 2 2 (.t 2)⟩, ⟨some 41, some (39, false), .ld false 1 (.t 40)⟩, ⟨some 42, some (39, false), .lenl (.t 41)⟩, ⟨some 43, some (39, false), .bin (.neq) (.t 42) (.c (.int (.i64) 0))⟩, ⟨some 44, none, .pick (.t 39) (.c (.bool true)) (.t 43)⟩] [28, 33, 35, 36, 37, 38, 39, 40, 41, 42, 43]
@[simp] theorem r6_Expr_c8_eq : aw PP r6_Expr_c8 K env H = awOps PP [⟨some 35, none, .fa 1 1 (.t 2)⟩, ⟨some 36, none, .ld false 1 (.t 35)⟩, ⟨some 37, none, .call (.c (.fn (.func 28) [] [])) [.t 36]⟩, ⟨some 38, none, .not (.t 37)⟩, ⟨some 39, none, .mov (.t 38)⟩, ⟨some 40, some (39, false), .fa 2 2 (.t 2)⟩, ⟨some 41, some (39, false), .ld false 1 (.t 40)⟩, ⟨some 42, some (39, false), .lenl (.t 41)⟩, ⟨some 43, some (39, false), .bin (.neq) (.t 42) (.c (.int (.i64) 0))⟩, ⟨some 44, none, .pick (.t 39) (.c (.bool true)) (.t 43)⟩] (regK K [28, 33, 35, 36, 37, 38, 39, 40, 41, 42, 43]) (panK K) env H := aw_reg _ _
def r6_Expr_c9 : AC := .reg [⟨some 4, none, .mov (.c (.bool false))⟩] [1, 2, 44]
@[simp] theorem r6_Expr_c9_eq : aw PP r6_Expr_c9 K env H = awOps PP [⟨some 4, none, .mov (.c (.bool false))⟩] (regK K [1, 2, 44]) (panK K) env H := aw_reg _ _
def r6_Expr_c10 : AC := .seq r6_Expr_c9 .ret
@[simp] theorem r6_Expr_c10_eq : aw PP r6_Expr_c10 K env H = aw PP r6_Expr_c9 (seqK PP .ret K) env H := aw_seq r6_Expr_c9 .ret
def r6_Expr_c11 : AC := .cond (.t 44) r6_Expr_c10 .skip
@[simp] theorem r6_Expr_c11_eq : aw PP r6_Expr_c11 K env H = condQ PP (Opd.ev env (.t 44)) r6_Expr_c10 .skip K env H := aw_cond _ r6_Expr_c10 .skip
def r6_Expr_c12 : AC := .seq r6_Expr_c8 r6_Expr_c11
@[simp] theorem r6_Expr_c12_eq : aw PP r6_Expr_c12 K env H = aw PP r6_Expr_c8 (seqK PP r6_Expr_c11 K) env H := aw_seq r6_Expr_c8 r6_Expr_c11
def r6_Expr_c13 : AC := .reg [⟨some 46, none, .bin (.eql) (.t 28) (.c (.int (.i64) 2))⟩, ⟨some 45, none, .mov (.t 46)⟩] [33, 46]
@[simp] theorem r6_Expr_c13_eq : aw PP r6_Expr_c13 K env H = awOps PP [⟨some 46, none, .bin (.eql) (.t 28) (.c (.int (.i64) 2))⟩, ⟨some 45, none, .mov (.t 46)⟩] (regK K [33, 46]) (panK K) env H := aw_reg _ _
def r6_Expr_c14 : AC := .reg [⟨some 47, none, .fa 2 2 (.t 2)⟩, ⟨some 48, none, .ld false 1 (.t 47)⟩, ⟨some 49, none, .lenl (.t 48)⟩, ⟨some 50, none, .bin (.eql) (.t 49) (.c (.int (.i64) 1))⟩] [28, 45, 47, 48, 49]
@[simp] theorem r6_Expr_c14_eq : aw PP r6_Expr_c14 K env H = awOps PP [⟨some 47, none, .fa 2 2 (.t 2)⟩, ⟨some 48, none, .ld false 1 (.t 47)⟩, ⟨some 49, none, .lenl (.t 48)⟩, ⟨some 50, none, .bin (.eql) (.t 49) (.c (.int (.i64) 1))⟩] (regK K [28, 45, 47, 48, 49]) (panK K) env H := aw_reg _ _
def r6_Expr_c15 : AC := .reg [⟨some 4, none, .mov (.c (.bool false))⟩] [1, 2, 50]
@[simp] theorem r6_Expr_c15_eq : aw PP r6_Expr_c15 K env H = awOps PP [⟨some 4, none, .mov (.c (.bool false))⟩] (regK K [1, 2, 50]) (panK K) env H := aw_reg _ _
def r6_Expr_c16 : AC := .seq r6_Expr_c15 .ret
@[simp] theorem r6_Expr_c16_eq : aw PP r6_Expr_c16 K env H = aw PP r6_Expr_c15 (seqK PP .ret K) env H := aw_seq r6_Expr_c15 .ret
def r6_Expr_c17 : AC := .cond (.t 50) r6_Expr_c16 .skip
@[simp] theorem r6_Expr_c17_eq : aw PP r6_Expr_c17 K env H = condQ PP (Opd.ev env (.t 50)) r6_Expr_c16 .skip K env H := aw_cond _ r6_Expr_c16 .skip
def r6_Expr_c18 : AC := .seq r6_Expr_c14 r6_Expr_c17
@[simp] theorem r6_Expr_c18_eq : aw PP r6_Expr_c18 K env H = aw PP r6_Expr_c14 (seqK PP r6_Expr_c17 K) env H := aw_seq r6_Expr_c14 r6_Expr_c17
def r6_Expr_c19 : AC := .reg [⟨some 52, none, .bin (.eql) (.t 28) (.c (.int (.i64) 3))⟩, ⟨some 51, none, .mov (.t 52)⟩] [28, 45, 52]
@[simp] theorem r6_Expr_c19_eq : aw PP r6_Expr_c19 K env H = awOps PP [⟨some 52, none, .bin (.eql) (.t 28) (.c (.int (.i64) 3))⟩, ⟨some 51, none, .mov (.t 52)⟩] (regK K [28, 45, 52]) (panK K) env H := aw_reg _ _
def r6_Expr_c20 : AC := .reg [⟨some 53, none, .fa 2 2 (.t 2)⟩, ⟨some 54, none, .ld false 1 (.t 53)⟩, ⟨some 55, none, .lenl (.t 54)⟩, ⟨some 56, none, .bin (.lss) (.t 55) (.c (.int (.i64) 2))⟩] [51, 53, 54, 55]
@[simp] theorem r6_Expr_c20_eq : aw PP r6_Expr_c20 K env H = awOps PP [⟨some 53, none, .fa 2 2 (.t 2)⟩, ⟨some 54, none, .ld false 1 (.t 53)⟩, ⟨some 55, none, .lenl (.t 54)⟩, ⟨some 56, none, .bin (.lss) (.t 55) (.c (.int (.i64) 2))⟩] (regK K [51, 53, 54, 55]) (panK K) env H := aw_reg _ _
def r6_Expr_c21 : AC := .reg [⟨some 4, none, .mov (.c (.bool false))⟩] [1, 2, 56]
@[simp] theorem r6_Expr_c21_eq : aw PP r6_Expr_c21 K env H = awOps PP [⟨some 4, none, .mov (.c (.bool false))⟩] (regK K [1, 2, 56]) (panK K) env H := aw_reg _ _
def r6_Expr_c22 : AC := .seq r6_Expr_c21 .ret
@[simp] theorem r6_Expr_c22_eq : aw PP r6_Expr_c22 K env H = aw PP r6_Expr_c21 (seqK PP .ret K) env H := aw_seq r6_Expr_c21 .ret
def r6_Expr_c23 : AC := .cond (.t 56) r6_Expr_c22 .skip
@[simp] theorem r6_Expr_c23_eq : aw PP r6_Expr_c23 K env H = condQ PP (Opd.ev env (.t 56)) r6_Expr_c22 .skip K env H := aw_cond _ r6_Expr_c22 .skip
def r6_Expr_c24 : AC := .seq r6_Expr_c20 r6_Expr_c23
@[simp] theorem r6_Expr_c24_eq : aw PP r6_Expr_c24 K env H = aw PP r6_Expr_c20 (seqK PP r6_Expr_c23 K) env H := aw_seq r6_Expr_c20 r6_Expr_c23
def r6_Expr_c25 : AC := .reg [⟨some 29, none, .fa 2 2 (.t 2)⟩, ⟨some 30, none, .ld false 1 (.t 29)⟩, ⟨some 31, none, .lenl (.t 30)⟩, ⟨some 32, none, .bin (.neq) (.t 31) (.c (.int (.i64) 1))⟩] [29, 30, 31, 51]
@[simp] theorem r6_Expr_c25_eq : aw PP r6_Expr_c25 K env H = awOps PP [⟨some 29, none, .fa 2 2 (.t 2)⟩, ⟨some 30, none, .ld false 1 (.t 29)⟩, ⟨some 31, none, .lenl (.t 30)⟩, ⟨some 32, none, .bin (.neq) (.t 31) (.c (.int (.i64) 1))⟩] (regK K [29, 30, 31, 51]) (panK K) env H := aw_reg _ _
def r6_Expr_c26 : AC := .reg [⟨some 4, none, .mov (.c (.bool false))⟩] [1, 2, 32]
@[simp] theorem r6_Expr_c26_eq : aw PP r6_Expr_c26 K env H = awOps PP [⟨some 4, none, .mov (.c (.bool false))⟩] (regK K [1, 2, 32]) (panK K) env H := aw_reg _ _
def r6_Expr_c27 : AC := .seq r6_Expr_c26 .ret
@[simp] theorem r6_Expr_c27_eq : aw PP r6_Expr_c27 K env H = aw PP r6_Expr_c26 (seqK PP .ret K) env H := aw_seq r6_Expr_c26 .ret
def r6_Expr_c28 : AC := .cond (.t 32) r6_Expr_c27 .skip
@[simp] theorem r6_Expr_c28_eq : aw PP r6_Expr_c28 K env H = condQ PP (Opd.ev env (.t 32)) r6_Expr_c27 .skip K env H := aw_cond _ r6_Expr_c27 .skip
def r6_Expr_c29 : AC := .seq r6_Expr_c25 r6_Expr_c28
@[simp] theorem r6_Expr_c29_eq : aw PP r6_Expr_c29 K env H = aw PP r6_Expr_c25 (seqK PP r6_Expr_c28 K) env H := aw_seq r6_Expr_c25 r6_Expr_c28
def r6_Expr_c30 : AC := .cond (.t 51) r6_Expr_c24 r6_Expr_c29
@[simp] theorem r6_Expr_c30_eq : aw PP r6_Expr_c30 K env H = condQ PP (Opd.ev env (.t 51)) r6_Expr_c24 r6_Expr_c29 K env H := aw_cond _ r6_Expr_c24 r6_Expr_c29
def r6_Expr_c31 : AC := .seq r6_Expr_c19 r6_Expr_c30
@[simp] theorem r6_Expr_c31_eq : aw PP r6_Expr_c31 K env H = aw PP r6_Expr_c19 (seqK PP r6_Expr_c30 K) env H := aw_seq r6_Expr_c19 r6_Expr_c30
def r6_Expr_c32 : AC := .cond (.t 45) r6_Expr_c18 r6_Expr_c31
@[simp] theorem r6_Expr_c32_eq : aw PP r6_Expr_c32 K env H = condQ PP (Opd.ev env (.t 45)) r6_Expr_c18 r6_Expr_c31 K env H := aw_cond _ r6_Expr_c18 r6_Expr_c31
def r6_Expr_c33 : AC := .seq r6_Expr_c13 r6_Expr_c32
@[simp] theorem r6_Expr_c33_eq : aw PP r6_Expr_c33 K env H = aw PP r6_Expr_c13 (seqK PP r6_Expr_c32 K) env H := aw_seq r6_Expr_c13 r6_Expr_c32
def r6_Expr_c34 : AC := .cond (.t 33) r6_Expr_c12 r6_Expr_c33
@[simp] theorem r6_Expr_c34_eq : aw PP r6_Expr_c34 K env H = condQ PP (Opd.ev env (.t 33)) r6_Expr_c12 r6_Expr_c33 K env H := aw_cond _ r6_Expr_c12 r6_Expr_c33
def r6_Expr_c35 : AC := .seq r6_Expr_c7 r6_Expr_c34
@[simp] theorem r6_Expr_c35_eq : aw PP r6_Expr_c35 K env H = aw PP r6_Expr_c7 (seqK PP r6_Expr_c34 K) env H := aw_seq r6_Expr_c7 r6_Expr_c34
def r6_Expr_c36 : AC := .block 0 r6_Expr_c35
@[simp] theorem r6_Expr_c36_eq : aw PP r6_Expr_c36 K env H = aw PP r6_Expr_c35 (blockK 0 K) env H := aw_block _ r6_Expr_c35
def r6_Expr_c37 : AC := .seq r6_Expr_c6 r6_Expr_c36
@[simp] theorem r6_Expr_c37_eq : aw PP r6_Expr_c37 K env H = aw PP r6_Expr_c6 (seqK PP r6_Expr_c36 K) env H := aw_seq r6_Expr_c6 r6_Expr_c36
def r6_Expr_c38 : AC := .reg [⟨some 5, none, .mov (.c (.int (.i64) 0))⟩] [32, 44, 50, 56]
@[simp] theorem r6_Expr_c38_eq : aw PP r6_Expr_c38 K env H = awOps PP [⟨some 5, none, .mov (.c (.int (.i64) 0))⟩] (regK K [32, 44, 50, 56]) (panK K) env H := aw_reg _ _
def r6_Expr_c39 : AC := .reg [⟨some 57, none, .mov (.t 5)⟩, ⟨some 58, none, .fa 2 2 (.t 2)⟩, ⟨some 59, none, .ld false 1 (.t 58)⟩, ⟨some 60, none, .lenl (.t 59)⟩, ⟨some 61, none, .bin (.lss) (.t 57) (.t 60)⟩] [57, 58, 59, 60]
@[simp] theorem r6_Expr_c39_eq : aw PP r6_Expr_c39 K env H = awOps PP [⟨some 57, none, .mov (.t 5)⟩, ⟨some 58, none, .fa 2 2 (.t 2)⟩, ⟨some 59, none, .ld false 1 (.t 58)⟩, ⟨some 60, none, .lenl (.t 59)⟩, ⟨some 61, none, .bin (.lss) (.t 57) (.t 60)⟩] (regK K [57, 58, 59, 60]) (panK K) env H := aw_reg _ _
def r6_Expr_c40 : AC := .cond (.t 61) .skip (.exit 1)
@[simp] theorem r6_Expr_c40_eq : aw PP r6_Expr_c40 K env H = condQ PP (Opd.ev env (.t 61)) .skip (.exit 1) K env H := aw_cond _ .skip (.exit 1)
def r6_Expr_c41 : AC := .seq r6_Expr_c39 r6_Expr_c40
@[simp] theorem r6_Expr_c41_eq : aw PP r6_Expr_c41 K env H = aw PP r6_Expr_c39 (seqK PP r6_Expr_c40 K) env H := aw_seq r6_Expr_c39 r6_Expr_c40
def r6_Expr_c42 : AC := .reg [⟨some 64, none, .fa 2 2 (.t 2)⟩, ⟨some 65, none, .ld false 1 (.t 64)⟩, ⟨some 66, none, .mov (.t 5)⟩, ⟨some 67, none, .ixa 3 (.t 65) (.t 66)⟩, ⟨some 68, none, .ld true 3 (.t 67)⟩, ⟨some 69, none, .mov (.t 1)⟩, ⟨some 70, none, .bin (.sub) (.t 69) (.c (.int (.i64) 1))⟩, ⟨some 71, none, .call (.c (.fn (.func 29) [] [])) [.t 68, .t 70]⟩, ⟨some 72, none, .not (.t 71)⟩] [61, 64, 65, 66, 67, 68, 69, 70, 71]
@[simp] theorem r6_Expr_c42_eq : aw PP r6_Expr_c42 K env H = awOps PP [⟨some 64, none, .fa 2 2 (.t 2)⟩, ⟨some 65, none, .ld false 1 (.t 64)⟩, ⟨some 66, none, .mov (.t 5)⟩, ⟨some 67, none, .ixa 3 (.t 65) (.t 66)⟩, ⟨some 68, none, .ld true 3 (.t 67)⟩, ⟨some 69, none, .mov (.t 1)⟩, ⟨some 70, none, .bin (.sub) (.t 69) (.c (.int (.i64) 1))⟩, ⟨some 71, none, .call (.c (.fn (.func 29) [] [])) [.t 68, .t 70]⟩, ⟨some 72, none, .not (.t 71)⟩] (regK K [61, 64, 65, 66, 67, 68, 69, 70, 71]) (panK K) env H := aw_reg _ _
def r6_Expr_c43 : AC := .reg [⟨some 4, none, .mov (.c (.bool false))⟩] [1, 2, 5, 72]
@[simp] theorem r6_Expr_c43_eq : aw PP r6_Expr_c43 K env H = awOps PP [⟨some 4, none, .mov (.c (.bool false))⟩] (regK K [1, 2, 5, 72]) (panK K) env H := aw_reg _ _
def r6_Expr_c44 : AC := .seq r6_Expr_c43 .ret
@[simp] theorem r6_Expr_c44_eq : aw PP r6_Expr_c44 K env H = aw PP r6_Expr_c43 (seqK PP .ret K) env H := aw_seq r6_Expr_c43 .ret
def r6_Expr_c45 : AC := .cond (.t 72) r6_Expr_c44 .skip
@[simp] theorem r6_Expr_c45_eq : aw PP r6_Expr_c45 K env H = condQ PP (Opd.ev env (.t 72)) r6_Expr_c44 .skip K env H := aw_cond _ r6_Expr_c44 .skip
def r6_Expr_c46 : AC := .seq r6_Expr_c42 r6_Expr_c45
@[simp] theorem r6_Expr_c46_eq : aw PP r6_Expr_c46 K env H = aw PP r6_Expr_c42 (seqK PP r6_Expr_c45 K) env H := aw_seq r6_Expr_c42 r6_Expr_c45
def r6_Expr_c47 : AC := .block 2 r6_Expr_c46
@[simp] theorem r6_Expr_c47_eq : aw PP r6_Expr_c47 K env H = aw PP r6_Expr_c46 (blockK 2 K) env H := aw_block _ r6_Expr_c46
def r6_Expr_c48 : AC := .reg [⟨some 62, none, .mov (.t 5)⟩, ⟨some 63, none, .bin (.add) (.t 62) (.c (.int (.i64) 1))⟩, ⟨some 5, none, .mov (.t 63)⟩] [62, 63, 72]
@[simp] theorem r6_Expr_c48_eq : aw PP r6_Expr_c48 K env H = awOps PP [⟨some 62, none, .mov (.t 5)⟩, ⟨some 63, none, .bin (.add) (.t 62) (.c (.int (.i64) 1))⟩, ⟨some 5, none, .mov (.t 63)⟩] (regK K [62, 63, 72]) (panK K) env H := aw_reg _ _
def r6_Expr_c49 : AC := .seq r6_Expr_c47 r6_Expr_c48
@[simp] theorem r6_Expr_c49_eq : aw PP r6_Expr_c49 K env H = aw PP r6_Expr_c47 (seqK PP r6_Expr_c48 K) env H := aw_seq r6_Expr_c47 r6_Expr_c48
def r6_Expr_c50 : AC := .seq r6_Expr_c41 r6_Expr_c49
@[simp] theorem r6_Expr_c50_eq : aw PP r6_Expr_c50 K env H = aw PP r6_Expr_c41 (seqK PP r6_Expr_c49 K) env H := aw_seq r6_Expr_c41 r6_Expr_c49
def r6_Expr_c51 : AC := .loop r6_Expr_c50
def r6_Expr_c52 : AC := .block 1 r6_Expr_c51
@[simp] theorem r6_Expr_c52_eq : aw PP r6_Expr_c52 K env H = aw PP r6_Expr_c51 (blockK 1 K) env H := aw_block _ r6_Expr_c51
def r6_Expr_c53 : AC := .seq r6_Expr_c38 r6_Expr_c52
@[simp] theorem r6_Expr_c53_eq : aw PP r6_Expr_c53 K env H = aw PP r6_Expr_c38 (seqK PP r6_Expr_c52 K) env H := aw_seq r6_Expr_c38 r6_Expr_c52
def r6_Expr_c54 : AC := .reg [⟨some 4, none, .mov (.c (.bool true))⟩] [1, 2, 5, 61]
@[simp] theorem r6_Expr_c54_eq : aw PP r6_Expr_c54 K env H = awOps PP [⟨some 4, none, .mov (.c (.bool true))⟩] (regK K [1, 2, 5, 61]) (panK K) env H := aw_reg _ _
def r6_Expr_c55 : AC := .seq r6_Expr_c54 .ret
@[simp] theorem r6_Expr_c55_eq : aw PP r6_Expr_c55 K env H = aw PP r6_Expr_c54 (seqK PP .ret K) env H := aw_seq r6_Expr_c54 .ret
def r6_Expr_c56 : AC := .seq r6_Expr_c53 r6_Expr_c55
@[simp] theorem r6_Expr_c56_eq : aw PP r6_Expr_c56 K env H = aw PP r6_Expr_c53 (seqK PP r6_Expr_c55 K) env H := aw_seq r6_Expr_c53 r6_Expr_c55
def r6_Expr_c57 : AC := .seq r6_Expr_c37 r6_Expr_c56
@[simp] theorem r6_Expr_c57_eq : aw PP r6_Expr_c57 K env H = aw PP r6_Expr_c37 (seqK PP r6_Expr_c56 K) env H := aw_seq r6_Expr_c37 r6_Expr_c56
def r6_Expr_c58 : AC := .seq r6_Expr_c5 r6_Expr_c57
@[simp] theorem r6_Expr_c58_eq : aw PP r6_Expr_c58 K env H = aw PP r6_Expr_c5 (seqK PP r6_Expr_c57 K) env H := aw_seq r6_Expr_c5 r6_Expr_c57
def r6_Expr_c59 : AC := .seq r6_Expr_c0 r6_Expr_c58
@[simp] theorem r6_Expr_c59_eq : aw PP r6_Expr_c59 K env H = aw PP r6_Expr_c0 (seqK PP r6_Expr_c58 K) env H := aw_seq r6_Expr_c0 r6_Expr_c58
def r6_Expr_ac : AC := r6_Expr_c59
@[simp] theorem r6_Expr_ac_eq : aw PP r6_Expr_ac K env H = aw PP r6_Expr_c59 K env H := Eq.trans rfl rfl
def r6_Expr_rs : List ARV := [.tmp 4]
abbrev r6_Expr_id : Nat := 29
theorem r6_Expr_comp : compF PP r6_Expr_kl r6_Expr_ow 2 Tryd.f29 = some (r6_Expr_ac, r6_Expr_rs) := by kernel_rfl
theorem r6_Expr_enter {args : List AV} {H : AHeap} {post : ARes → AHeap → Prop} (ha : args.length = 2) (h : aw PP r6_Expr_ac (retK r6_Expr_rs post) (argEnv 0 args) H) : ACalls PP r6_Expr_id args H post := .enterF Tryd.func29 PP_mix r6_Expr_comp ha h

/-! slices.EqualFunc[[]emendate.api.GLevel,[]emendate.api.GLevel,emendate.api.GLevel,emendate.api.GLevel] -/
def sE_GLevel_kl : Nat → List Nat
  | 0 => [6]
  | 1 => [10, 11, 12, 13]
  | 2 => [0, 1, 2, 14]
  | 3 => [0, 14]
  | 5 => [18, 19, 20, 21]
  | 6 => [7, 22, 23, 24, 25]
  | 7 => [8, 9, 26, 27, 28, 29]
  | 8 => [1, 2, 15, 16, 17, 30]
  | 9 => [30, 31]
  | 10 => [1, 2, 15, 16, 17, 18]
  | _ => []
def sE_GLevel_ow : Nat → Nat → Bool := fun _ _ => false
def sE_GLevel_c0 : AC := .reg [⟨some 6, none, .mov (.c (.bool false))⟩] [6]
@[simp] theorem sE_GLevel_c0_eq : aw PP sE_GLevel_c0 K env H = awOps PP [⟨some 6, none, .mov (.c (.bool false))⟩] (regK K [6]) (panK K) env H := aw_reg _ _
def sE_GLevel_c1 : AC := .reg [⟨some 10, none, .mov (.t 0)⟩, ⟨some 11, none, .lenl (.t 10)⟩, ⟨some 12, none, .mov (.t 1)⟩, ⟨some 13, none, .lenl (.t 12)⟩, ⟨some 14, none, .bin (.neq) (.t 11) (.t 13)⟩] [10, 11, 12, 13]
@[simp] theorem sE_GLevel_c1_eq : aw PP sE_GLevel_c1 K env H = awOps PP [⟨some 10, none, .mov (.t 0)⟩, ⟨some 11, none, .lenl (.t 10)⟩, ⟨some 12, none, .mov (.t 1)⟩, ⟨some 13, none, .lenl (.t 12)⟩, ⟨some 14, none, .bin (.neq) (.t 11) (.t 13)⟩] (regK K [10, 11, 12, 13]) (panK K) env H := aw_reg _ _
def sE_GLevel_c2 : AC := .reg [⟨some 6, none, .mov (.c (.bool false))⟩] [0, 1, 2, 14]
@[simp] theorem sE_GLevel_c2_eq : aw PP sE_GLevel_c2 K env H = awOps PP [⟨some 6, none, .mov (.c (.bool false))⟩] (regK K [0, 1, 2, 14]) (panK K) env H := aw_reg _ _
def sE_GLevel_c3 : AC := .seq sE_GLevel_c2 .ret
@[simp] theorem sE_GLevel_c3_eq : aw PP sE_GLevel_c3 K env H = aw PP sE_GLevel_c2 (seqK PP .ret K) env H := aw_seq sE_GLevel_c2 .ret
def sE_GLevel_c4 : AC := .cond (.t 14) sE_GLevel_c3 .skip
@[simp] theorem sE_GLevel_c4_eq : aw PP sE_GLevel_c4 K env H = condQ PP (Opd.ev env (.t 14)) sE_GLevel_c3 .skip K env H := aw_cond _ sE_GLevel_c3 .skip
def sE_GLevel_c5 : AC := .seq sE_GLevel_c1 sE_GLevel_c4
@[simp] theorem sE_GLevel_c5_eq : aw PP sE_GLevel_c5 K env H = aw PP sE_GLevel_c1 (seqK PP sE_GLevel_c4 K) env H := aw_seq sE_GLevel_c1 sE_GLevel_c4
def sE_GLevel_c6 : AC := .reg [⟨some 15, none, .mov (.t 0)⟩, ⟨some 16, none, .lenl (.t 15)⟩, ⟨some 17, none, .mov (.c (.int (.i64) 0))⟩] [0, 14]
@[simp] theorem sE_GLevel_c6_eq : aw PP sE_GLevel_c6 K env H = awOps PP [⟨some 15, none, .mov (.t 0)⟩, ⟨some 16, none, .lenl (.t 15)⟩, ⟨some 17, none, .mov (.c (.int (.i64) 0))⟩] (regK K [0, 14]) (panK K) env H := aw_reg _ _
def sE_GLevel_c7 : AC := .reg [⟨some 18, none, .bin (.lss) (.t 17) (.t 16)⟩] []
@[simp] theorem sE_GLevel_c7_eq : aw PP sE_GLevel_c7 K env H = awOps PP [⟨some 18, none, .bin (.lss) (.t 17) (.t 16)⟩] (regK K []) (panK K) env H := aw_reg _ _
def sE_GLevel_c8 : AC := .cond (.t 18) .skip (.exit 0)
@[simp] theorem sE_GLevel_c8_eq : aw PP sE_GLevel_c8 K env H = condQ PP (Opd.ev env (.t 18)) .skip (.exit 0) K env H := aw_cond _ .skip (.exit 0)
def sE_GLevel_c9 : AC := .reg [⟨some 19, none, .mov (.t 17)⟩, ⟨some 20, none, .ixa 2 (.t 15) (.t 17)⟩, ⟨some 21, none, .ld true 2 (.t 20)⟩, ⟨some 8, none, .alloc (.struct [.int (.i64) 0, .nils]) 51⟩, ⟨some 7, none, .mov (.t 19)⟩, ⟨none, none, .st 2 (.t 8) (.t 21)⟩] [18, 19, 20, 21]
@[simp] theorem sE_GLevel_c9_eq : aw PP sE_GLevel_c9 K env H = awOps PP [⟨some 19, none, .mov (.t 17)⟩, ⟨some 20, none, .ixa 2 (.t 15) (.t 17)⟩, ⟨some 21, none, .ld true 2 (.t 20)⟩, ⟨some 8, none, .alloc (.struct [.int (.i64) 0, .nils]) 51⟩, ⟨some 7, none, .mov (.t 19)⟩, ⟨none, none, .st 2 (.t 8) (.t 21)⟩] (regK K [18, 19, 20, 21]) (panK K) env H := aw_reg _ _
def sE_GLevel_c10 : AC := .reg [⟨some 22, none, .mov (.t 1)⟩, ⟨some 23, none, .mov (.t 7)⟩, ⟨some 24, none, .ixa 2 (.t 22) (.t 23)⟩, ⟨some 25, none, .ld true 2 (.t 24)⟩, ⟨some 9, none, .alloc (.struct [.int (.i64) 0, .nils]) 51⟩, ⟨none, none, .st 2 (.t 9) (.t 25)⟩] [7, 22, 23, 24, 25]
@[simp] theorem sE_GLevel_c10_eq : aw PP sE_GLevel_c10 K env H = awOps PP [⟨some 22, none, .mov (.t 1)⟩, ⟨some 23, none, .mov (.t 7)⟩, ⟨some 24, none, .ixa 2 (.t 22) (.t 23)⟩, ⟨some 25, none, .ld true 2 (.t 24)⟩, ⟨some 9, none, .alloc (.struct [.int (.i64) 0, .nils]) 51⟩, ⟨none, none, .st 2 (.t 9) (.t 25)⟩] (regK K [7, 22, 23, 24, 25]) (panK K) env H := aw_reg _ _
def sE_GLevel_c11 : AC := .reg [⟨some 26, none, .mov (.t 2)⟩, ⟨some 27, none, .ld true 2 (.t 8)⟩, ⟨some 28, none, .ld true 2 (.t 9)⟩, ⟨some 29, none, .call (.t 26) [.t 27, .t 28]⟩, ⟨some 30, none, .not (.t 29)⟩] [8, 9, 26, 27, 28, 29]
@[simp] theorem sE_GLevel_c11_eq : aw PP sE_GLevel_c11 K env H = awOps PP [⟨some 26, none, .mov (.t 2)⟩, ⟨some 27, none, .ld true 2 (.t 8)⟩, ⟨some 28, none, .ld true 2 (.t 9)⟩, ⟨some 29, none, .call (.t 26) [.t 27, .t 28]⟩, ⟨some 30, none, .not (.t 29)⟩] (regK K [8, 9, 26, 27, 28, 29]) (panK K) env H := aw_reg _ _
def sE_GLevel_c12 : AC := .reg [⟨some 6, none, .mov (.c (.bool false))⟩] [1, 2, 15, 16, 17, 30]
@[simp] theorem sE_GLevel_c12_eq : aw PP sE_GLevel_c12 K env H = awOps PP [⟨some 6, none, .mov (.c (.bool false))⟩] (regK K [1, 2, 15, 16, 17, 30]) (panK K) env H := aw_reg _ _
def sE_GLevel_c13 : AC := .seq sE_GLevel_c12 .ret
@[simp] theorem sE_GLevel_c13_eq : aw PP sE_GLevel_c13 K env H = aw PP sE_GLevel_c12 (seqK PP .ret K) env H := aw_seq sE_GLevel_c12 .ret
def sE_GLevel_c14 : AC := .cond (.t 30) sE_GLevel_c13 .skip
@[simp] theorem sE_GLevel_c14_eq : aw PP sE_GLevel_c14 K env H = condQ PP (Opd.ev env (.t 30)) sE_GLevel_c13 .skip K env H := aw_cond _ sE_GLevel_c13 .skip
def sE_GLevel_c15 : AC := .seq sE_GLevel_c11 sE_GLevel_c14
@[simp] theorem sE_GLevel_c15_eq : aw PP sE_GLevel_c15 K env H = aw PP sE_GLevel_c11 (seqK PP sE_GLevel_c14 K) env H := aw_seq sE_GLevel_c11 sE_GLevel_c14
def sE_GLevel_c16 : AC := .seq sE_GLevel_c10 sE_GLevel_c15
@[simp] theorem sE_GLevel_c16_eq : aw PP sE_GLevel_c16 K env H = aw PP sE_GLevel_c10 (seqK PP sE_GLevel_c15 K) env H := aw_seq sE_GLevel_c10 sE_GLevel_c15
def sE_GLevel_c17 : AC := .seq sE_GLevel_c9 sE_GLevel_c16
@[simp] theorem sE_GLevel_c17_eq : aw PP sE_GLevel_c17 K env H = aw PP sE_GLevel_c9 (seqK PP sE_GLevel_c16 K) env H := aw_seq sE_GLevel_c9 sE_GLevel_c16
def sE_GLevel_c18 : AC := .block 1 sE_GLevel_c17
@[simp] theorem sE_GLevel_c18_eq : aw PP sE_GLevel_c18 K env H = aw PP sE_GLevel_c17 (blockK 1 K) env H := aw_block _ sE_GLevel_c17
def sE_GLevel_c19 : AC := .reg [⟨some 31, none, .bin (.add) (.t 17) (.c (.int (.i64) 1))⟩, ⟨some 17, none, .mov (.t 31)⟩] [30, 31]
@[simp] theorem sE_GLevel_c19_eq : aw PP sE_GLevel_c19 K env H = awOps PP [⟨some 31, none, .bin (.add) (.t 17) (.c (.int (.i64) 1))⟩, ⟨some 17, none, .mov (.t 31)⟩] (regK K [30, 31]) (panK K) env H := aw_reg _ _
def sE_GLevel_c20 : AC := .seq sE_GLevel_c18 sE_GLevel_c19
@[simp] theorem sE_GLevel_c20_eq : aw PP sE_GLevel_c20 K env H = aw PP sE_GLevel_c18 (seqK PP sE_GLevel_c19 K) env H := aw_seq sE_GLevel_c18 sE_GLevel_c19
def sE_GLevel_c21 : AC := .seq sE_GLevel_c8 sE_GLevel_c20
@[simp] theorem sE_GLevel_c21_eq : aw PP sE_GLevel_c21 K env H = aw PP sE_GLevel_c8 (seqK PP sE_GLevel_c20 K) env H := aw_seq sE_GLevel_c8 sE_GLevel_c20
def sE_GLevel_c22 : AC := .seq sE_GLevel_c7 sE_GLevel_c21
@[simp] theorem sE_GLevel_c22_eq : aw PP sE_GLevel_c22 K env H = aw PP sE_GLevel_c7 (seqK PP sE_GLevel_c21 K) env H := aw_seq sE_GLevel_c7 sE_GLevel_c21
def sE_GLevel_c23 : AC := .loop sE_GLevel_c22
def sE_GLevel_c24 : AC := .block 0 sE_GLevel_c23
@[simp] theorem sE_GLevel_c24_eq : aw PP sE_GLevel_c24 K env H = aw PP sE_GLevel_c23 (blockK 0 K) env H := aw_block _ sE_GLevel_c23
def sE_GLevel_c25 : AC := .seq sE_GLevel_c6 sE_GLevel_c24
@[simp] theorem sE_GLevel_c25_eq : aw PP sE_GLevel_c25 K env H = aw PP sE_GLevel_c6 (seqK PP sE_GLevel_c24 K) env H := aw_seq sE_GLevel_c6 sE_GLevel_c24
def sE_GLevel_c26 : AC := .reg [⟨some 6, none, .mov (.c (.bool true))⟩] [1, 2, 15, 16, 17, 18]
@[simp] theorem sE_GLevel_c26_eq : aw PP sE_GLevel_c26 K env H = awOps PP [⟨some 6, none, .mov (.c (.bool true))⟩] (regK K [1, 2, 15, 16, 17, 18]) (panK K) env H := aw_reg _ _
def sE_GLevel_c27 : AC := .seq sE_GLevel_c26 .ret
@[simp] theorem sE_GLevel_c27_eq : aw PP sE_GLevel_c27 K env H = aw PP sE_GLevel_c26 (seqK PP .ret K) env H := aw_seq sE_GLevel_c26 .ret
def sE_GLevel_c28 : AC := .seq sE_GLevel_c25 sE_GLevel_c27
@[simp] theorem sE_GLevel_c28_eq : aw PP sE_GLevel_c28 K env H = aw PP sE_GLevel_c25 (seqK PP sE_GLevel_c27 K) env H := aw_seq sE_GLevel_c25 sE_GLevel_c27
def sE_GLevel_c29 : AC := .seq sE_GLevel_c5 sE_GLevel_c28
@[simp] theorem sE_GLevel_c29_eq : aw PP sE_GLevel_c29 K env H = aw PP sE_GLevel_c5 (seqK PP sE_GLevel_c28 K) env H := aw_seq sE_GLevel_c5 sE_GLevel_c28
def sE_GLevel_c30 : AC := .seq sE_GLevel_c0 sE_GLevel_c29
@[simp] theorem sE_GLevel_c30_eq : aw PP sE_GLevel_c30 K env H = aw PP sE_GLevel_c0 (seqK PP sE_GLevel_c29 K) env H := aw_seq sE_GLevel_c0 sE_GLevel_c29
def sE_GLevel_ac : AC := sE_GLevel_c30
@[simp] theorem sE_GLevel_ac_eq : aw PP sE_GLevel_ac K env H = aw PP sE_GLevel_c30 K env H := Eq.trans rfl rfl
def sE_GLevel_rs : List ARV := [.tmp 6]
abbrev sE_GLevel_id : Nat := 30
theorem sE_GLevel_comp : compF PP sE_GLevel_kl sE_GLevel_ow 3 Tryd.f30 = some (sE_GLevel_ac, sE_GLevel_rs) := by kernel_rfl
theorem sE_GLevel_enter {args : List AV} {H : AHeap} {post : ARes → AHeap → Prop} (ha : args.length = 3) (h : aw PP sE_GLevel_ac (retK sE_GLevel_rs post) (argEnv 0 args) H) : ACalls PP sE_GLevel_id args H post := .enterF Tryd.func30 PP_mix sE_GLevel_comp ha h

/-! emendate.grammarfile.Equal$1 -/
def gF_Equal_1_kl : Nat → List Nat
  | 0 => [0, 1, 4]
  | 1 => [2, 3, 5, 6, 7, 8, 9, 10, 11, 12, 13, 14, 15, 16]
  | _ => []
def gF_Equal_1_ow : Nat → Nat → Bool := fun _ _ => false
def gF_Equal_1_c0 : AC := .reg [⟨some 2, none, .box (.t 0) 2 51⟩, ⟨some 3, none, .box (.t 1) 2 51⟩, ⟨some 4, none, .mov (.c (.bool false))⟩] [0, 1, 4]
@[simp] theorem gF_Equal_1_c0_eq : aw PP gF_Equal_1_c0 K env H = awOps PP [⟨some 2, none, .box (.t 0) 2 51⟩, ⟨some 3, none, .box (.t 1) 2 51⟩, ⟨some 4, none, .mov (.c (.bool false))⟩] (regK K [0, 1, 4]) (panK K) env H := aw_reg _ _
def gF_Equal_1_c1 : AC := .reg [⟨some 5, none, .fa 0 0 (.t 2)⟩, ⟨some 6, none, .ld false 1 (.t 5)⟩, ⟨some 7, none, .fa 0 0 (.t 3)⟩, ⟨some 8, none, .ld false 1 (.t 7)⟩, ⟨some 9, none, .bin (.eql) (.t 6) (.t 8)⟩, ⟨some 10, none, .mov (.t 9)⟩, ⟨some 11, some (10, true), .fa 1 1 (.t 2)⟩, ⟨some 12, some (10, true), .ld false 1 (.t 11)⟩, ⟨some 13, some (10, true), .fa 1 1 (.t 3)⟩, ⟨some 14, some (10, true), .ld false 1 (.t 13)⟩, ⟨some 15, some (10, true), .call (.c (.fn (.func 32) [] [])) [.t 12, .t 14]⟩, ⟨some 16, none, .pick (.t 10) (.t 15) (.c (.bool false))⟩, ⟨some 4, none, .mov (.t 16)⟩] [2, 3, 5, 6, 7, 8, 9, 10, 11, 12, 13, 14, 15, 16]
@[simp] theorem gF_Equal_1_c1_eq : aw PP gF_Equal_1_c1 K env H = awOps PP [⟨some 5, none, .fa 0 0 (.t 2)⟩, ⟨some 6, none, .ld false 1 (.t 5)⟩, ⟨some 7, none, .fa 0 0 (.t 3)⟩, ⟨some 8, none, .ld false 1 (.t 7)⟩, ⟨some 9, none, .bin (.eql) (.t 6) (.t 8)⟩, ⟨some 10, none, .mov (.t 9)⟩, ⟨some 11, some (10, true), .fa 1 1 (.t 2)⟩, ⟨some 12, some (10, true), .ld false 1 (.t 11)⟩, ⟨some 13, some (10, true), .fa 1 1 (.t 3)⟩, ⟨some 14, some (10, true), .ld false 1 (.t 13)⟩, ⟨some 15, some (10, true), .call (.c (.fn (.func 32) [] [])) [.t 12, .t 14]⟩, ⟨some 16, none, .pick (.t 10) (.t 15) (.c (.bool false))⟩, ⟨some 4, none, .mov (.t 16)⟩] (regK K [2, 3, 5, 6, 7, 8, 9, 10, 11, 12, 13, 14, 15, 16]) (panK K) env H := aw_reg _ _
def gF_Equal_1_c2 : AC := .seq gF_Equal_1_c1 .ret
@[simp] theorem gF_Equal_1_c2_eq : aw PP gF_Equal_1_c2 K env H = aw PP gF_Equal_1_c1 (seqK PP .ret K) env H := aw_seq gF_Equal_1_c1 .ret
def gF_Equal_1_c3 : AC := .seq gF_Equal_1_c0 gF_Equal_1_c2
@[simp] theorem gF_Equal_1_c3_eq : aw PP gF_Equal_1_c3 K env H = aw PP gF_Equal_1_c0 (seqK PP gF_Equal_1_c2 K) env H := aw_seq gF_Equal_1_c0 gF_Equal_1_c2
def gF_Equal_1_ac : AC := gF_Equal_1_c3
@[simp] theorem gF_Equal_1_ac_eq : aw PP gF_Equal_1_ac K env H = aw PP gF_Equal_1_c3 K env H := Eq.trans rfl rfl
def gF_Equal_1_rs : List ARV := [.tmp 4]
abbrev gF_Equal_1_id : Nat := 31
theorem gF_Equal_1_comp : compF PP gF_Equal_1_kl gF_Equal_1_ow 2 Tryd.f31 = some (gF_Equal_1_ac, gF_Equal_1_rs) := by kernel_rfl
theorem gF_Equal_1_enter {args : List AV} {H : AHeap} {post : ARes → AHeap → Prop} (ha : args.length = 2) (h : aw PP gF_Equal_1_ac (retK gF_Equal_1_rs post) (argEnv 0 args) H) : ACalls PP gF_Equal_1_id args H post := .enterF Tryd.func31 PP_mix gF_Equal_1_comp ha h

/-! slices.Equal[[]string,string] -/
def sl_Equal_string_kl : Nat → List Nat
  | 0 => [4]
  | 1 => [6, 7, 8, 9]
  | 2 => [0, 1, 10]
  | 3 => [10, 11]
  | 5 => [14, 15]
  | 6 => [5, 16, 17, 18, 19, 20, 21, 22, 23]
  | 7 => [0, 1, 12, 13, 24]
  | 8 => [24, 25]
  | 9 => [0, 1, 12, 13, 14]
  | _ => []
def sl_Equal_string_ow : Nat → Nat → Bool := fun _ _ => false
def sl_Equal_string_c0 : AC := .reg [⟨some 4, none, .mov (.c (.bool false))⟩] [4]
@[simp] theorem sl_Equal_string_c0_eq : aw PP sl_Equal_string_c0 K env H = awOps PP [⟨some 4, none, .mov (.c (.bool false))⟩] (regK K [4]) (panK K) env H := aw_reg _ _
def sl_Equal_string_c1 : AC := .reg [⟨some 6, none, .mov (.t 0)⟩, ⟨some 7, none, .lenl (.t 6)⟩, ⟨some 8, none, .mov (.t 1)⟩, ⟨some 9, none, .lenl (.t 8)⟩, ⟨some 10, none, .bin (.neq) (.t 7) (.t 9)⟩] [6, 7, 8, 9]
@[simp] theorem sl_Equal_string_c1_eq : aw PP sl_Equal_string_c1 K env H = awOps PP [⟨some 6, none, .mov (.t 0)⟩, ⟨some 7, none, .lenl (.t 6)⟩, ⟨some 8, none, .mov (.t 1)⟩, ⟨some 9, none, .lenl (.t 8)⟩, ⟨some 10, none, .bin (.neq) (.t 7) (.t 9)⟩] (regK K [6, 7, 8, 9]) (panK K) env H := aw_reg _ _
def sl_Equal_string_c2 : AC := .reg [⟨some 4, none, .mov (.c (.bool false))⟩] [0, 1, 10]
@[simp] theorem sl_Equal_string_c2_eq : aw PP sl_Equal_string_c2 K env H = awOps PP [⟨some 4, none, .mov (.c (.bool false))⟩] (regK K [0, 1, 10]) (panK K) env H := aw_reg _ _
def sl_Equal_string_c3 : AC := .seq sl_Equal_string_c2 .ret
@[simp] theorem sl_Equal_string_c3_eq : aw PP sl_Equal_string_c3 K env H = aw PP sl_Equal_string_c2 (seqK PP .ret K) env H := aw_seq sl_Equal_string_c2 .ret
def sl_Equal_string_c4 : AC := .cond (.t 10) sl_Equal_string_c3 .skip
@[simp] theorem sl_Equal_string_c4_eq : aw PP sl_Equal_string_c4 K env H = condQ PP (Opd.ev env (.t 10)) sl_Equal_string_c3 .skip K env H := aw_cond _ sl_Equal_string_c3 .skip
def sl_Equal_string_c5 : AC := .seq sl_Equal_string_c1 sl_Equal_string_c4
@[simp] theorem sl_Equal_string_c5_eq : aw PP sl_Equal_string_c5 K env H = aw PP sl_Equal_string_c1 (seqK PP sl_Equal_string_c4 K) env H := aw_seq sl_Equal_string_c1 sl_Equal_string_c4
def sl_Equal_string_c6 : AC := .reg [⟨some 11, none, .mov (.t 0)⟩, ⟨some 12, none, .lenl (.t 11)⟩, ⟨some 13, none, .mov (.c (.int (.i64) 0))⟩] [10, 11]
@[simp] theorem sl_Equal_string_c6_eq : aw PP sl_Equal_string_c6 K env H = awOps PP [⟨some 11, none, .mov (.t 0)⟩, ⟨some 12, none, .lenl (.t 11)⟩, ⟨some 13, none, .mov (.c (.int (.i64) 0))⟩] (regK K [10, 11]) (panK K) env H := aw_reg _ _
def sl_Equal_string_c7 : AC := .reg [⟨some 14, none, .bin (.lss) (.t 13) (.t 12)⟩] []
@[simp] theorem sl_Equal_string_c7_eq : aw PP sl_Equal_string_c7 K env H = awOps PP [⟨some 14, none, .bin (.lss) (.t 13) (.t 12)⟩] (regK K []) (panK K) env H := aw_reg _ _
def sl_Equal_string_c8 : AC := .cond (.t 14) .skip (.exit 0)
@[simp] theorem sl_Equal_string_c8_eq : aw PP sl_Equal_string_c8 K env H = condQ PP (Opd.ev env (.t 14)) .skip (.exit 0) K env H := aw_cond _ .skip (.exit 0)
def sl_Equal_string_c9 : AC := .reg [⟨some 15, none, .mov (.t 13)⟩, ⟨some 5, none, .mov (.t 15)⟩] [14, 15]
@[simp] theorem sl_Equal_string_c9_eq : aw PP sl_Equal_string_c9 K env H = awOps PP [⟨some 15, none, .mov (.t 13)⟩, ⟨some 5, none, .mov (.t 15)⟩] (regK K [14, 15]) (panK K) env H := aw_reg _ _
def sl_Equal_string_c10_ops : List (AI × List Nat) := [(⟨some 16, none, .mov (.t 0)⟩, []), (⟨some 17, none, .mov (.t 5)⟩, []), (⟨some 18, none, .ixa 1 (.t 16) (.t 17)⟩, [0, 1]), (⟨some 19, none, .ld false 1 (.t 18)⟩, [2]), (⟨some 20, none, .mov (.t 1)⟩, []), (⟨some 21, none, .mov (.t 5)⟩, []), (⟨some 22, none, .ixa 1 (.t 20) (.t 21)⟩, [4, 5]), (⟨some 23, none, .ld false 1 (.t 22)⟩, [6]), (⟨some 24, none, .bin (.neq) (.t 19) (.t 23)⟩, [3, 7])]
def sl_Equal_string_c10 : AC := .dreg sl_Equal_string_c10_ops [5, 16, 17, 18, 19, 20, 21, 22, 23]
theorem sl_Equal_string_c10_ok : lexOK sl_Equal_string_c10_ops (fun i => [].contains i) = true := by kernel_rfl
theorem sl_Equal_string_c10_lex (h : awLex PP (fun i => [].contains i) (regK K [5, 16, 17, 18, 19, 20, 21, 22, 23]) (panK K) [(0, ⟨some 16, none, .mov (.t 0)⟩), (1, ⟨some 17, none, .mov (.t 5)⟩), (2, ⟨some 18, none, .ixa 1 (.t 16) (.t 17)⟩), (3, ⟨some 19, none, .ld false 1 (.t 18)⟩), (4, ⟨some 20, none, .mov (.t 1)⟩), (5, ⟨some 21, none, .mov (.t 5)⟩), (6, ⟨some 22, none, .ixa 1 (.t 20) (.t 21)⟩), (7, ⟨some 23, none, .ld false 1 (.t 22)⟩), (8, ⟨some 24, none, .bin (.neq) (.t 19) (.t 23)⟩)] env H) : aw PP sl_Equal_string_c10 K env H := aw_dreg_lex _ sl_Equal_string_c10_ok h
def sl_Equal_string_c11 : AC := .reg [⟨some 4, none, .mov (.c (.bool false))⟩] [0, 1, 12, 13, 24]
@[simp] theorem sl_Equal_string_c11_eq : aw PP sl_Equal_string_c11 K env H = awOps PP [⟨some 4, none, .mov (.c (.bool false))⟩] (regK K [0, 1, 12, 13, 24]) (panK K) env H := aw_reg _ _
def sl_Equal_string_c12 : AC := .seq sl_Equal_string_c11 .ret
@[simp] theorem sl_Equal_string_c12_eq : aw PP sl_Equal_string_c12 K env H = aw PP sl_Equal_string_c11 (seqK PP .ret K) env H := aw_seq sl_Equal_string_c11 .ret
def sl_Equal_string_c13 : AC := .cond (.t 24) sl_Equal_string_c12 .skip
@[simp] theorem sl_Equal_string_c13_eq : aw PP sl_Equal_string_c13 K env H = condQ PP (Opd.ev env (.t 24)) sl_Equal_string_c12 .skip K env H := aw_cond _ sl_Equal_string_c12 .skip
def sl_Equal_string_c14 : AC := .seq sl_Equal_string_c10 sl_Equal_string_c13
@[simp] theorem sl_Equal_string_c14_eq : aw PP sl_Equal_string_c14 K env H = aw PP sl_Equal_string_c10 (seqK PP sl_Equal_string_c13 K) env H := aw_seq sl_Equal_string_c10 sl_Equal_string_c13
def sl_Equal_string_c15 : AC := .seq sl_Equal_string_c9 sl_Equal_string_c14
@[simp] theorem sl_Equal_string_c15_eq : aw PP sl_Equal_string_c15 K env H = aw PP sl_Equal_string_c9 (seqK PP sl_Equal_string_c14 K) env H := aw_seq sl_Equal_string_c9 sl_Equal_string_c14
def sl_Equal_string_c16 : AC := .block 1 sl_Equal_string_c15
@[simp] theorem sl_Equal_string_c16_eq : aw PP sl_Equal_string_c16 K env H = aw PP sl_Equal_string_c15 (blockK 1 K) env H := aw_block _ sl_Equal_string_c15
def sl_Equal_string_c17 : AC := .reg [⟨some 25, none, .bin (.add) (.t 13) (.c (.int (.i64) 1))⟩, ⟨some 13, none, .mov (.t 25)⟩] [24, 25]
@[simp] theorem sl_Equal_string_c17_eq : aw PP sl_Equal_string_c17 K env H = awOps PP [⟨some 25, none, .bin (.add) (.t 13) (.c (.int (.i64) 1))⟩, ⟨some 13, none, .mov (.t 25)⟩] (regK K [24, 25]) (panK K) env H := aw_reg _ _
def sl_Equal_string_c18 : AC := .seq sl_Equal_string_c16 sl_Equal_string_c17
@[simp] theorem sl_Equal_string_c18_eq : aw PP sl_Equal_string_c18 K env H = aw PP sl_Equal_string_c16 (seqK PP sl_Equal_string_c17 K) env H := aw_seq sl_Equal_string_c16 sl_Equal_string_c17
def sl_Equal_string_c19 : AC := .seq sl_Equal_string_c8 sl_Equal_string_c18
@[simp] theorem sl_Equal_string_c19_eq : aw PP sl_Equal_string_c19 K env H = aw PP sl_Equal_string_c8 (seqK PP sl_Equal_string_c18 K) env H := aw_seq sl_Equal_string_c8 sl_Equal_string_c18
def sl_Equal_string_c20 : AC := .seq sl_Equal_string_c7 sl_Equal_string_c19
@[simp] theorem sl_Equal_string_c20_eq : aw PP sl_Equal_string_c20 K env H = aw PP sl_Equal_string_c7 (seqK PP sl_Equal_string_c19 K) env H := aw_seq sl_Equal_string_c7 sl_Equal_string_c19
def sl_Equal_string_c21 : AC := .loop sl_Equal_string_c20
def sl_Equal_string_c22 : AC := .block 0 sl_Equal_string_c21
@[simp] theorem sl_Equal_string_c22_eq : aw PP sl_Equal_string_c22 K env H = aw PP sl_Equal_string_c21 (blockK 0 K) env H := aw_block _ sl_Equal_string_c21
def sl_Equal_string_c23 : AC := .seq sl_Equal_string_c6 sl_Equal_string_c22
@[simp] theorem sl_Equal_string_c23_eq : aw PP sl_Equal_string_c23 K env H = aw PP sl_Equal_string_c6 (seqK PP sl_Equal_string_c22 K) env H := aw_seq sl_Equal_string_c6 sl_Equal_string_c22
def sl_Equal_string_c24 : AC := .reg [⟨some 4, none, .mov (.c (.bool true))⟩] [0, 1, 12, 13, 14]
@[simp] theorem sl_Equal_string_c24_eq : aw PP sl_Equal_string_c24 K env H = awOps PP [⟨some 4, none, .mov (.c (.bool true))⟩] (regK K [0, 1, 12, 13, 14]) (panK K) env H := aw_reg _ _
def sl_Equal_string_c25 : AC := .seq sl_Equal_string_c24 .ret
@[simp] theorem sl_Equal_string_c25_eq : aw PP sl_Equal_string_c25 K env H = aw PP sl_Equal_string_c24 (seqK PP .ret K) env H := aw_seq sl_Equal_string_c24 .ret
def sl_Equal_string_c26 : AC := .seq sl_Equal_string_c23 sl_Equal_string_c25
@[simp] theorem sl_Equal_string_c26_eq : aw PP sl_Equal_string_c26 K env H = aw PP sl_Equal_string_c23 (seqK PP sl_Equal_string_c25 K) env H := aw_seq sl_Equal_string_c23 sl_Equal_string_c25
def sl_Equal_string_c27 : AC := .seq sl_Equal_string_c5 sl_Equal_string_c26
@[simp] theorem sl_Equal_string_c27_eq : aw PP sl_Equal_string_c27 K env H = aw PP sl_Equal_string_c5 (seqK PP sl_Equal_string_c26 K) env H := aw_seq sl_Equal_string_c5 sl_Equal_string_c26
def sl_Equal_string_c28 : AC := .seq sl_Equal_string_c0 sl_Equal_string_c27
@[simp] theorem sl_Equal_string_c28_eq : aw PP sl_Equal_string_c28 K env H = aw PP sl_Equal_string_c0 (seqK PP sl_Equal_string_c27 K) env H := aw_seq sl_Equal_string_c0 sl_Equal_string_c27
def sl_Equal_string_ac : AC := sl_Equal_string_c28
@[simp] theorem sl_Equal_string_ac_eq : aw PP sl_Equal_string_ac K env H = aw PP sl_Equal_string_c28 K env H := Eq.trans rfl rfl
def sl_Equal_string_rs : List ARV := [.tmp 4]
abbrev sl_Equal_string_id : Nat := 32
theorem sl_Equal_string_comp : compF PP sl_Equal_string_kl sl_Equal_string_ow 2 Tryd.f32 = some (sl_Equal_string_ac, sl_Equal_string_rs) := by kernel_rfl
theorem sl_Equal_string_enter {args : List AV} {H : AHeap} {post : ARes → AHeap → Prop} (ha : args.length = 2) (h : aw PP sl_Equal_string_ac (retK sl_Equal_string_rs post) (argEnv 0 args) H) : ACalls PP sl_Equal_string_id args H post := .enterF Tryd.func32 PP_mix sl_Equal_string_comp ha h

/-! slices.EqualFunc[[]emendate.api.GRule,[]emendate.api.GRule,emendate.api.GRule,emendate.api.GRule] -/
def sE_GRule_kl : Nat → List Nat
  | 0 => [6]
  | 1 => [10, 11, 12, 13]
  | 2 => [0, 1, 2, 14]
  | 3 => [0, 14]
  | 5 => [18, 19, 20, 21]
  | 6 => [7, 22, 23, 24, 25]
  | 7 => [8, 9, 26, 27, 28, 29]
  | 8 => [1, 2, 15, 16, 17, 30]
  | 9 => [30, 31]
  | 10 => [1, 2, 15, 16, 17, 18]
  | _ => []
def sE_GRule_ow : Nat → Nat → Bool := fun _ _ => false
def sE_GRule_c0 : AC := .reg [⟨some 6, none, .mov (.c (.bool false))⟩] [6]
@[simp] theorem sE_GRule_c0_eq : aw PP sE_GRule_c0 K env H = awOps PP [⟨some 6, none, .mov (.c (.bool false))⟩] (regK K [6]) (panK K) env H := aw_reg _ _
def sE_GRule_c1 : AC := .reg [⟨some 10, none, .mov (.t 0)⟩, ⟨some 11, none, .lenl (.t 10)⟩, ⟨some 12, none, .mov (.t 1)⟩, ⟨some 13, none, .lenl (.t 12)⟩, ⟨some 14, none, .bin (.neq) (.t 11) (.t 13)⟩] [10, 11, 12, 13]
@[simp] theorem sE_GRule_c1_eq : aw PP sE_GRule_c1 K env H = awOps PP [⟨some 10, none, .mov (.t 0)⟩, ⟨some 11, none, .lenl (.t 10)⟩, ⟨some 12, none, .mov (.t 1)⟩, ⟨some 13, none, .lenl (.t 12)⟩, ⟨some 14, none, .bin (.neq) (.t 11) (.t 13)⟩] (regK K [10, 11, 12, 13]) (panK K) env H := aw_reg _ _
def sE_GRule_c2 : AC := .reg [⟨some 6, none, .mov (.c (.bool false))⟩] [0, 1, 2, 14]
@[simp] theorem sE_GRule_c2_eq : aw PP sE_GRule_c2 K env H = awOps PP [⟨some 6, none, .mov (.c (.bool false))⟩] (regK K [0, 1, 2, 14]) (panK K) env H := aw_reg _ _
def sE_GRule_c3 : AC := .seq sE_GRule_c2 .ret
@[simp] theorem sE_GRule_c3_eq : aw PP sE_GRule_c3 K env H = aw PP sE_GRule_c2 (seqK PP .ret K) env H := aw_seq sE_GRule_c2 .ret
def sE_GRule_c4 : AC := .cond (.t 14) sE_GRule_c3 .skip
@[simp] theorem sE_GRule_c4_eq : aw PP sE_GRule_c4 K env H = condQ PP (Opd.ev env (.t 14)) sE_GRule_c3 .skip K env H := aw_cond _ sE_GRule_c3 .skip
def sE_GRule_c5 : AC := .seq sE_GRule_c1 sE_GRule_c4
@[simp] theorem sE_GRule_c5_eq : aw PP sE_GRule_c5 K env H = aw PP sE_GRule_c1 (seqK PP sE_GRule_c4 K) env H := aw_seq sE_GRule_c1 sE_GRule_c4
def sE_GRule_c6 : AC := .reg [⟨some 15, none, .mov (.t 0)⟩, ⟨some 16, none, .lenl (.t 15)⟩, ⟨some 17, none, .mov (.c (.int (.i64) 0))⟩] [0, 14]
@[simp] theorem sE_GRule_c6_eq : aw PP sE_GRule_c6 K env H = awOps PP [⟨some 15, none, .mov (.t 0)⟩, ⟨some 16, none, .lenl (.t 15)⟩, ⟨some 17, none, .mov (.c (.int (.i64) 0))⟩] (regK K [0, 14]) (panK K) env H := aw_reg _ _
def sE_GRule_c7 : AC := .reg [⟨some 18, none, .bin (.lss) (.t 17) (.t 16)⟩] []
@[simp] theorem sE_GRule_c7_eq : aw PP sE_GRule_c7 K env H = awOps PP [⟨some 18, none, .bin (.lss) (.t 17) (.t 16)⟩] (regK K []) (panK K) env H := aw_reg _ _
def sE_GRule_c8 : AC := .cond (.t 18) .skip (.exit 0)
@[simp] theorem sE_GRule_c8_eq : aw PP sE_GRule_c8 K env H = condQ PP (Opd.ev env (.t 18)) .skip (.exit 0) K env H := aw_cond _ .skip (.exit 0)
def sE_GRule_c9 : AC := .reg [⟨some 19, none, .mov (.t 17)⟩, ⟨some 20, none, .ixa 2 (.t 15) (.t 17)⟩, ⟨some 21, none, .ld true 2 (.t 20)⟩, ⟨some 8, none, .alloc (.struct [.str [], .nils]) 41⟩, ⟨some 7, none, .mov (.t 19)⟩, ⟨none, none, .st 2 (.t 8) (.t 21)⟩] [18, 19, 20, 21]
@[simp] theorem sE_GRule_c9_eq : aw PP sE_GRule_c9 K env H = awOps PP [⟨some 19, none, .mov (.t 17)⟩, ⟨some 20, none, .ixa 2 (.t 15) (.t 17)⟩, ⟨some 21, none, .ld true 2 (.t 20)⟩, ⟨some 8, none, .alloc (.struct [.str [], .nils]) 41⟩, ⟨some 7, none, .mov (.t 19)⟩, ⟨none, none, .st 2 (.t 8) (.t 21)⟩] (regK K [18, 19, 20, 21]) (panK K) env H := aw_reg _ _
def sE_GRule_c10 : AC := .reg [⟨some 22, none, .mov (.t 1)⟩, ⟨some 23, none, .mov (.t 7)⟩, ⟨some 24, none, .ixa 2 (.t 22) (.t 23)⟩, ⟨some 25, none, .ld true 2 (.t 24)⟩, ⟨some 9, none, .alloc (.struct [.str [], .nils]) 41⟩, ⟨none, none, .st 2 (.t 9) (.t 25)⟩] [7, 22, 23, 24, 25]
@[simp] theorem sE_GRule_c10_eq : aw PP sE_GRule_c10 K env H = awOps PP [⟨some 22, none, .mov (.t 1)⟩, ⟨some 23, none, .mov (.t 7)⟩, ⟨some 24, none, .ixa 2 (.t 22) (.t 23)⟩, ⟨some 25, none, .ld true 2 (.t 24)⟩, ⟨some 9, none, .alloc (.struct [.str [], .nils]) 41⟩, ⟨none, none, .st 2 (.t 9) (.t 25)⟩] (regK K [7, 22, 23, 24, 25]) (panK K) env H := aw_reg _ _
def sE_GRule_c11 : AC := .reg [⟨some 26, none, .mov (.t 2)⟩, ⟨some 27, none, .ld true 2 (.t 8)⟩, ⟨some 28, none, .ld true 2 (.t 9)⟩, ⟨some 29, none, .call (.t 26) [.t 27, .t 28]⟩, ⟨some 30, none, .not (.t 29)⟩] [8, 9, 26, 27, 28, 29]
@[simp] theorem sE_GRule_c11_eq : aw PP sE_GRule_c11 K env H = awOps PP [⟨some 26, none, .mov (.t 2)⟩, ⟨some 27, none, .ld true 2 (.t 8)⟩, ⟨some 28, none, .ld true 2 (.t 9)⟩, ⟨some 29, none, .call (.t 26) [.t 27, .t 28]⟩, ⟨some 30, none, .not (.t 29)⟩] (regK K [8, 9, 26, 27, 28, 29]) (panK K) env H := aw_reg _ _
def sE_GRule_c12 : AC := .reg [⟨some 6, none, .mov (.c (.bool false))⟩] [1, 2, 15, 16, 17, 30]
@[simp] theorem sE_GRule_c12_eq : aw PP sE_GRule_c12 K env H = awOps PP [⟨some 6, none, .mov (.c (.bool false))⟩] (regK K [1, 2, 15, 16, 17, 30]) (panK K) env H := aw_reg _ _
def sE_GRule_c13 : AC := .seq sE_GRule_c12 .ret
@[simp] theorem sE_GRule_c13_eq : aw PP sE_GRule_c13 K env H = aw PP sE_GRule_c12 (seqK PP .ret K) env H := aw_seq sE_GRule_c12 .ret
def sE_GRule_c14 : AC := .cond (.t 30) sE_GRule_c13 .skip
@[simp] theorem sE_GRule_c14_eq : aw PP sE_GRule_c14 K env H = condQ PP (Opd.ev env (.t 30)) sE_GRule_c13 .skip K env H := aw_cond _ sE_GRule_c13 .skip
def sE_GRule_c15 : AC := .seq sE_GRule_c11 sE_GRule_c14
@[simp] theorem sE_GRule_c15_eq : aw PP sE_GRule_c15 K env H = aw PP sE_GRule_c11 (seqK PP sE_GRule_c14 K) env H := aw_seq sE_GRule_c11 sE_GRule_c14
def sE_GRule_c16 : AC := .seq sE_GRule_c10 sE_GRule_c15
@[simp] theorem sE_GRule_c16_eq : aw PP sE_GRule_c16 K env H = aw PP sE_GRule_c10 (seqK PP sE_GRule_c15 K) env H := aw_seq sE_GRule_c10 sE_GRule_c15
def sE_GRule_c17 : AC := .seq sE_GRule_c9 sE_GRule_c16
@[simp] theorem sE_GRule_c17_eq : aw PP sE_GRule_c17 K env H = aw PP sE_GRule_c9 (seqK PP sE_GRule_c16 K) env H := aw_seq sE_GRule_c9 sE_GRule_c16
def sE_GRule_c18 : AC := .block 1 sE_GRule_c17
@[simp] theorem sE_GRule_c18_eq : aw PP sE_GRule_c18 K env H = aw PP sE_GRule_c17 (blockK 1 K) env H := aw_block _ sE_GRule_c17
def sE_GRule_c19 : AC := .reg [⟨some 31, none, .bin (.add) (.t 17) (.c (.int (.i64) 1))⟩, ⟨some 17, none, .mov (.t 31)⟩] [30, 31]
@[simp] theorem sE_GRule_c19_eq : aw PP sE_GRule_c19 K env H = awOps PP [⟨some 31, none, .bin (.add) (.t 17) (.c (.int (.i64) 1))⟩, ⟨some 17, none, .mov (.t 31)⟩] (regK K [30, 31]) (panK K) env H := aw_reg _ _
def sE_GRule_c20 : AC := .seq sE_GRule_c18 sE_GRule_c19
@[simp] theorem sE_GRule_c20_eq : aw PP sE_GRule_c20 K env H = aw PP sE_GRule_c18 (seqK PP sE_GRule_c19 K) env H := aw_seq sE_GRule_c18 sE_GRule_c19
def sE_GRule_c21 : AC := .seq sE_GRule_c8 sE_GRule_c20
@[simp] theorem sE_GRule_c21_eq : aw PP sE_GRule_c21 K env H = aw PP sE_GRule_c8 (seqK PP sE_GRule_c20 K) env H := aw_seq sE_GRule_c8 sE_GRule_c20
def sE_GRule_c22 : AC := .seq sE_GRule_c7 sE_GRule_c21
@[simp] theorem sE_GRule_c22_eq : aw PP sE_GRule_c22 K env H = aw PP sE_GRule_c7 (seqK PP sE_GRule_c21 K) env H := aw_seq sE_GRule_c7 sE_GRule_c21
def sE_GRule_c23 : AC := .loop sE_GRule_c22
def sE_GRule_c24 : AC := .block 0 sE_GRule_c23
@[simp] theorem sE_GRule_c24_eq : aw PP sE_GRule_c24 K env H = aw PP sE_GRule_c23 (blockK 0 K) env H := aw_block _ sE_GRule_c23
def sE_GRule_c25 : AC := .seq sE_GRule_c6 sE_GRule_c24
@[simp] theorem sE_GRule_c25_eq : aw PP sE_GRule_c25 K env H = aw PP sE_GRule_c6 (seqK PP sE_GRule_c24 K) env H := aw_seq sE_GRule_c6 sE_GRule_c24
def sE_GRule_c26 : AC := .reg [⟨some 6, none, .mov (.c (.bool true))⟩] [1, 2, 15, 16, 17, 18]
@[simp] theorem sE_GRule_c26_eq : aw PP sE_GRule_c26 K env H = awOps PP [⟨some 6, none, .mov (.c (.bool true))⟩] (regK K [1, 2, 15, 16, 17, 18]) (panK K) env H := aw_reg _ _
def sE_GRule_c27 : AC := .seq sE_GRule_c26 .ret
@[simp] theorem sE_GRule_c27_eq : aw PP sE_GRule_c27 K env H = aw PP sE_GRule_c26 (seqK PP .ret K) env H := aw_seq sE_GRule_c26 .ret
def sE_GRule_c28 : AC := .seq sE_GRule_c25 sE_GRule_c27
@[simp] theorem sE_GRule_c28_eq : aw PP sE_GRule_c28 K env H = aw PP sE_GRule_c25 (seqK PP sE_GRule_c27 K) env H := aw_seq sE_GRule_c25 sE_GRule_c27
def sE_GRule_c29 : AC := .seq sE_GRule_c5 sE_GRule_c28
@[simp] theorem sE_GRule_c29_eq : aw PP sE_GRule_c29 K env H = aw PP sE_GRule_c5 (seqK PP sE_GRule_c28 K) env H := aw_seq sE_GRule_c5 sE_GRule_c28
def sE_GRule_c30 : AC := .seq sE_GRule_c0 sE_GRule_c29
@[simp] theorem sE_GRule_c30_eq : aw PP sE_GRule_c30 K env H = aw PP sE_GRule_c0 (seqK PP sE_GRule_c29 K) env H := aw_seq sE_GRule_c0 sE_GRule_c29
def sE_GRule_ac : AC := sE_GRule_c30
@[simp] theorem sE_GRule_ac_eq : aw PP sE_GRule_ac K env H = aw PP sE_GRule_c30 K env H := Eq.trans rfl rfl
def sE_GRule_rs : List ARV := [.tmp 6]
abbrev sE_GRule_id : Nat := 33
theorem sE_GRule_comp : compF PP sE_GRule_kl sE_GRule_ow 3 Tryd.f33 = some (sE_GRule_ac, sE_GRule_rs) := by kernel_rfl
theorem sE_GRule_enter {args : List AV} {H : AHeap} {post : ARes → AHeap → Prop} (ha : args.length = 3) (h : aw PP sE_GRule_ac (retK sE_GRule_rs post) (argEnv 0 args) H) : ACalls PP sE_GRule_id args H post := .enterF Tryd.func33 PP_mix sE_GRule_comp ha h

/-! emendate.grammarfile.Equal$2 -/
def gF_Equal_2_kl : Nat → List Nat
  | 0 => [0, 1, 4]
  | 1 => [2, 3, 5, 6, 7, 8, 9, 10, 11, 12, 13, 14, 15, 16]
  | _ => []
def gF_Equal_2_ow : Nat → Nat → Bool := fun _ _ => false
def gF_Equal_2_c0 : AC := .reg [⟨some 2, none, .box (.t 0) 2 41⟩, ⟨some 3, none, .box (.t 1) 2 41⟩, ⟨some 4, none, .mov (.c (.bool false))⟩] [0, 1, 4]
@[simp] theorem gF_Equal_2_c0_eq : aw PP gF_Equal_2_c0 K env H = awOps PP [⟨some 2, none, .box (.t 0) 2 41⟩, ⟨some 3, none, .box (.t 1) 2 41⟩, ⟨some 4, none, .mov (.c (.bool false))⟩] (regK K [0, 1, 4]) (panK K) env H := aw_reg _ _
def gF_Equal_2_c1 : AC := .reg [⟨some 5, none, .fa 0 0 (.t 2)⟩, ⟨some 6, none, .ld false 1 (.t 5)⟩, ⟨some 7, none, .fa 0 0 (.t 3)⟩, ⟨some 8, none, .ld false 1 (.t 7)⟩, ⟨some 9, none, .bin (.eql) (.t 6) (.t 8)⟩, ⟨some 10, none, .mov (.t 9)⟩, ⟨some 11, some (10, true), .fa 1 1 (.t 2)⟩, ⟨some 12, some (10, true), .ld false 1 (.t 11)⟩, ⟨some 13, some (10, true), .fa 1 1 (.t 3)⟩, ⟨some 14, some (10, true), .ld false 1 (.t 13)⟩, ⟨some 15, some (10, true), .call (.c (.fn (.func 35) [] [])) [.t 12, .t 14, .c (.fn (.func 36) [] [])]⟩, ⟨some 16, none, .pick (.t 10) (.t 15) (.c (.bool false))⟩, ⟨some 4, none, .mov (.t 16)⟩] [2, 3, 5, 6, 7, 8, 9, 10, 11, 12, 13, 14, 15, 16]
@[simp] theorem gF_Equal_2_c1_eq : aw PP gF_Equal_2_c1 K env H = awOps PP [⟨some 5, none, .fa 0 0 (.t 2)⟩, ⟨some 6, none, .ld false 1 (.t 5)⟩, ⟨some 7, none, .fa 0 0 (.t 3)⟩, ⟨some 8, none, .ld false 1 (.t 7)⟩, ⟨some 9, none, .bin (.eql) (.t 6) (.t 8)⟩, ⟨some 10, none, .mov (.t 9)⟩, ⟨some 11, some (10, true), .fa 1 1 (.t 2)⟩, ⟨some 12, some (10, true), .ld false 1 (.t 11)⟩, ⟨some 13, some (10, true), .fa 1 1 (.t 3)⟩, ⟨some 14, some (10, true), .ld false 1 (.t 13)⟩, ⟨some 15, some (10, true), .call (.c (.fn (.func 35) [] [])) [.t 12, .t 14, .c (.fn (.func 36) [] [])]⟩, ⟨some 16, none, .pick (.t 10) (.t 15) (.c (.bool false))⟩, ⟨some 4, none, .mov (.t 16)⟩] (regK K [2, 3, 5, 6, 7, 8, 9, 10, 11, 12, 13, 14, 15, 16]) (panK K) env H := aw_reg _ _
def gF_Equal_2_c2 : AC := .seq gF_Equal_2_c1 .ret
@[simp] theorem gF_Equal_2_c2_eq : aw PP gF_Equal_2_c2 K env H = aw PP gF_Equal_2_c1 (seqK PP .ret K) env H := aw_seq gF_Equal_2_c1 .ret
def gF_Equal_2_c3 : AC := .seq gF_Equal_2_c0 gF_Equal_2_c2
@[simp] theorem gF_Equal_2_c3_eq : aw PP gF_Equal_2_c3 K env H = aw PP gF_Equal_2_c0 (seqK PP gF_Equal_2_c2 K) env H := aw_seq gF_Equal_2_c0 gF_Equal_2_c2
def gF_Equal_2_ac : AC := gF_Equal_2_c3
@[simp] theorem gF_Equal_2_ac_eq : aw PP gF_Equal_2_ac K env H = aw PP gF_Equal_2_c3 K env H := Eq.trans rfl rfl
def gF_Equal_2_rs : List ARV := [.tmp 4]
abbrev gF_Equal_2_id : Nat := 34
theorem gF_Equal_2_comp : compF PP gF_Equal_2_kl gF_Equal_2_ow 2 Tryd.f34 = some (gF_Equal_2_ac, gF_Equal_2_rs) := by kernel_rfl
theorem gF_Equal_2_enter {args : List AV} {H : AHeap} {post : ARes → AHeap → Prop} (ha : args.length = 2) (h : aw PP gF_Equal_2_ac (retK gF_Equal_2_rs post) (argEnv 0 args) H) : ACalls PP gF_Equal_2_id args H post := .enterF Tryd.func34 PP_mix gF_Equal_2_comp ha h

/-! slices.EqualFunc[[]emendate.api.GAlternative,[]emendate.api.GAlternative,emendate.api.GAlternative,emendate.api.GAlternative] -/
def sE_GA_kl : Nat → List Nat
  | 0 => [6]
  | 1 => [10, 11, 12, 13]
  | 2 => [0, 1, 2, 14]
  | 3 => [0, 14]
  | 5 => [18, 19, 20, 21]
  | 6 => [7, 22, 23, 24, 25]
  | 7 => [8, 9, 26, 27, 28, 29]
  | 8 => [1, 2, 15, 16, 17, 30]
  | 9 => [30, 31]
  | 10 => [1, 2, 15, 16, 17, 18]
  | _ => []
def sE_GA_ow : Nat → Nat → Bool := fun _ _ => false
def sE_GA_c0 : AC := .reg [⟨some 6, none, .mov (.c (.bool false))⟩] [6]
@[simp] theorem sE_GA_c0_eq : aw PP sE_GA_c0 K env H = awOps PP [⟨some 6, none, .mov (.c (.bool false))⟩] (regK K [6]) (panK K) env H := aw_reg _ _
def sE_GA_c1 : AC := .reg [⟨some 10, none, .mov (.t 0)⟩, ⟨some 11, none, .lenl (.t 10)⟩, ⟨some 12, none, .mov (.t 1)⟩, ⟨some 13, none, .lenl (.t 12)⟩, ⟨some 14, none, .bin (.neq) (.t 11) (.t 13)⟩] [10, 11, 12, 13]
@[simp] theorem sE_GA_c1_eq : aw PP sE_GA_c1 K env H = awOps PP [⟨some 10, none, .mov (.t 0)⟩, ⟨some 11, none, .lenl (.t 10)⟩, ⟨some 12, none, .mov (.t 1)⟩, ⟨some 13, none, .lenl (.t 12)⟩, ⟨some 14, none, .bin (.neq) (.t 11) (.t 13)⟩] (regK K [10, 11, 12, 13]) (panK K) env H := aw_reg _ _
def sE_GA_c2 : AC := .reg [⟨some 6, none, .mov (.c (.bool false))⟩] [0, 1, 2, 14]
@[simp] theorem sE_GA_c2_eq : aw PP sE_GA_c2 K env H = awOps PP [⟨some 6, none, .mov (.c (.bool false))⟩] (regK K [0, 1, 2, 14]) (panK K) env H := aw_reg _ _
def sE_GA_c3 : AC := .seq sE_GA_c2 .ret
@[simp] theorem sE_GA_c3_eq : aw PP sE_GA_c3 K env H = aw PP sE_GA_c2 (seqK PP .ret K) env H := aw_seq sE_GA_c2 .ret
def sE_GA_c4 : AC := .cond (.t 14) sE_GA_c3 .skip
@[simp] theorem sE_GA_c4_eq : aw PP sE_GA_c4 K env H = condQ PP (Opd.ev env (.t 14)) sE_GA_c3 .skip K env H := aw_cond _ sE_GA_c3 .skip
def sE_GA_c5 : AC := .seq sE_GA_c1 sE_GA_c4
@[simp] theorem sE_GA_c5_eq : aw PP sE_GA_c5 K env H = aw PP sE_GA_c1 (seqK PP sE_GA_c4 K) env H := aw_seq sE_GA_c1 sE_GA_c4
def sE_GA_c6 : AC := .reg [⟨some 15, none, .mov (.t 0)⟩, ⟨some 16, none, .lenl (.t 15)⟩, ⟨some 17, none, .mov (.c (.int (.i64) 0))⟩] [0, 14]
@[simp] theorem sE_GA_c6_eq : aw PP sE_GA_c6 K env H = awOps PP [⟨some 15, none, .mov (.t 0)⟩, ⟨some 16, none, .lenl (.t 15)⟩, ⟨some 17, none, .mov (.c (.int (.i64) 0))⟩] (regK K [0, 14]) (panK K) env H := aw_reg _ _
def sE_GA_c7 : AC := .reg [⟨some 18, none, .bin (.lss) (.t 17) (.t 16)⟩] []
@[simp] theorem sE_GA_c7_eq : aw PP sE_GA_c7 K env H = awOps PP [⟨some 18, none, .bin (.lss) (.t 17) (.t 16)⟩] (regK K []) (panK K) env H := aw_reg _ _
def sE_GA_c8 : AC := .cond (.t 18) .skip (.exit 0)
@[simp] theorem sE_GA_c8_eq : aw PP sE_GA_c8 K env H = condQ PP (Opd.ev env (.t 18)) .skip (.exit 0) K env H := aw_cond _ .skip (.exit 0)
def sE_GA_c9 : AC := .reg [⟨some 19, none, .mov (.t 17)⟩, ⟨some 20, none, .ixa 4 (.t 15) (.t 17)⟩, ⟨some 21, none, .ld true 4 (.t 20)⟩, ⟨some 8, none, .alloc (.struct [.struct [.int (.i64) 0, .str [], .nils], .int (.i64) 0]) 38⟩, ⟨some 7, none, .mov (.t 19)⟩, ⟨none, none, .st 4 (.t 8) (.t 21)⟩] [18, 19, 20, 21]
@[simp] theorem sE_GA_c9_eq : aw PP sE_GA_c9 K env H = awOps PP [⟨some 19, none, .mov (.t 17)⟩, ⟨some 20, none, .ixa 4 (.t 15) (.t 17)⟩, ⟨some 21, none, .ld true 4 (.t 20)⟩, ⟨some 8, none, .alloc (.struct [.struct [.int (.i64) 0, .str [], .nils], .int (.i64) 0]) 38⟩, ⟨some 7, none, .mov (.t 19)⟩, ⟨none, none, .st 4 (.t 8) (.t 21)⟩] (regK K [18, 19, 20, 21]) (panK K) env H := aw_reg _ _
def sE_GA_c10 : AC := .reg [⟨some 22, none, .mov (.t 1)⟩, ⟨some 23, none, .mov (.t 7)⟩, ⟨some 24, none, .ixa 4 (.t 22) (.t 23)⟩, ⟨some 25, none, .ld true 4 (.t 24)⟩, ⟨some 9, none, .alloc (.struct [.struct [.int (.i64) 0, .str [], .nils], .int (.i64) 0]) 38⟩, ⟨none, none, .st 4 (.t 9) (.t 25)⟩] [7, 22, 23, 24, 25]
@[simp] theorem sE_GA_c10_eq : aw PP sE_GA_c10 K env H = awOps PP [⟨some 22, none, .mov (.t 1)⟩, ⟨some 23, none, .mov (.t 7)⟩, ⟨some 24, none, .ixa 4 (.t 22) (.t 23)⟩, ⟨some 25, none, .ld true 4 (.t 24)⟩, ⟨some 9, none, .alloc (.struct [.struct [.int (.i64) 0, .str [], .nils], .int (.i64) 0]) 38⟩, ⟨none, none, .st 4 (.t 9) (.t 25)⟩] (regK K [7, 22, 23, 24, 25]) (panK K) env H := aw_reg _ _
def sE_GA_c11 : AC := .reg [⟨some 26, none, .mov (.t 2)⟩, ⟨some 27, none, .ld true 4 (.t 8)⟩, ⟨some 28, none, .ld true 4 (.t 9)⟩, ⟨some 29, none, .call (.t 26) [.t 27, .t 28]⟩, ⟨some 30, none, .not (.t 29)⟩] [8, 9, 26, 27, 28, 29]
@[simp] theorem sE_GA_c11_eq : aw PP sE_GA_c11 K env H = awOps PP [⟨some 26, none, .mov (.t 2)⟩, ⟨some 27, none, .ld true 4 (.t 8)⟩, ⟨some 28, none, .ld true 4 (.t 9)⟩, ⟨some 29, none, .call (.t 26) [.t 27, .t 28]⟩, ⟨some 30, none, .not (.t 29)⟩] (regK K [8, 9, 26, 27, 28, 29]) (panK K) env H := aw_reg _ _
def sE_GA_c12 : AC := .reg [⟨some 6, none, .mov (.c (.bool false))⟩] [1, 2, 15, 16, 17, 30]
@[simp] theorem sE_GA_c12_eq : aw PP sE_GA_c12 K env H = awOps PP [⟨some 6, none, .mov (.c (.bool false))⟩] (regK K [1, 2, 15, 16, 17, 30]) (panK K) env H := aw_reg _ _
def sE_GA_c13 : AC := .seq sE_GA_c12 .ret
@[simp] theorem sE_GA_c13_eq : aw PP sE_GA_c13 K env H = aw PP sE_GA_c12 (seqK PP .ret K) env H := aw_seq sE_GA_c12 .ret
def sE_GA_c14 : AC := .cond (.t 30) sE_GA_c13 .skip
@[simp] theorem sE_GA_c14_eq : aw PP sE_GA_c14 K env H = condQ PP (Opd.ev env (.t 30)) sE_GA_c13 .skip K env H := aw_cond _ sE_GA_c13 .skip
def sE_GA_c15 : AC := .seq sE_GA_c11 sE_GA_c14
@[simp] theorem sE_GA_c15_eq : aw PP sE_GA_c15 K env H = aw PP sE_GA_c11 (seqK PP sE_GA_c14 K) env H := aw_seq sE_GA_c11 sE_GA_c14
def sE_GA_c16 : AC := .seq sE_GA_c10 sE_GA_c15
@[simp] theorem sE_GA_c16_eq : aw PP sE_GA_c16 K env H = aw PP sE_GA_c10 (seqK PP sE_GA_c15 K) env H := aw_seq sE_GA_c10 sE_GA_c15
def sE_GA_c17 : AC := .seq sE_GA_c9 sE_GA_c16
@[simp] theorem sE_GA_c17_eq : aw PP sE_GA_c17 K env H = aw PP sE_GA_c9 (seqK PP sE_GA_c16 K) env H := aw_seq sE_GA_c9 sE_GA_c16
def sE_GA_c18 : AC := .block 1 sE_GA_c17
@[simp] theorem sE_GA_c18_eq : aw PP sE_GA_c18 K env H = aw PP sE_GA_c17 (blockK 1 K) env H := aw_block _ sE_GA_c17
def sE_GA_c19 : AC := .reg [⟨some 31, none, .bin (.add) (.t 17) (.c (.int (.i64) 1))⟩, ⟨some 17, none, .mov (.t 31)⟩] [30, 31]
@[simp] theorem sE_GA_c19_eq : aw PP sE_GA_c19 K env H = awOps PP [⟨some 31, none, .bin (.add) (.t 17) (.c (.int (.i64) 1))⟩, ⟨some 17, none, .mov (.t 31)⟩] (regK K [30, 31]) (panK K) env H := aw_reg _ _
def sE_GA_c20 : AC := .seq sE_GA_c18 sE_GA_c19
@[simp] theorem sE_GA_c20_eq : aw PP sE_GA_c20 K env H = aw PP sE_GA_c18 (seqK PP sE_GA_c19 K) env H := aw_seq sE_GA_c18 sE_GA_c19
def sE_GA_c21 : AC := .seq sE_GA_c8 sE_GA_c20
@[simp] theorem sE_GA_c21_eq : aw PP sE_GA_c21 K env H = aw PP sE_GA_c8 (seqK PP sE_GA_c20 K) env H := aw_seq sE_GA_c8 sE_GA_c20
def sE_GA_c22 : AC := .seq sE_GA_c7 sE_GA_c21
@[simp] theorem sE_GA_c22_eq : aw PP sE_GA_c22 K env H = aw PP sE_GA_c7 (seqK PP sE_GA_c21 K) env H := aw_seq sE_GA_c7 sE_GA_c21
def sE_GA_c23 : AC := .loop sE_GA_c22
def sE_GA_c24 : AC := .block 0 sE_GA_c23
@[simp] theorem sE_GA_c24_eq : aw PP sE_GA_c24 K env H = aw PP sE_GA_c23 (blockK 0 K) env H := aw_block _ sE_GA_c23
def sE_GA_c25 : AC := .seq sE_GA_c6 sE_GA_c24
@[simp] theorem sE_GA_c25_eq : aw PP sE_GA_c25 K env H = aw PP sE_GA_c6 (seqK PP sE_GA_c24 K) env H := aw_seq sE_GA_c6 sE_GA_c24
def sE_GA_c26 : AC := .reg [⟨some 6, none, .mov (.c (.bool true))⟩] [1, 2, 15, 16, 17, 18]
@[simp] theorem sE_GA_c26_eq : aw PP sE_GA_c26 K env H = awOps PP [⟨some 6, none, .mov (.c (.bool true))⟩] (regK K [1, 2, 15, 16, 17, 18]) (panK K) env H := aw_reg _ _
def sE_GA_c27 : AC := .seq sE_GA_c26 .ret
@[simp] theorem sE_GA_c27_eq : aw PP sE_GA_c27 K env H = aw PP sE_GA_c26 (seqK PP .ret K) env H := aw_seq sE_GA_c26 .ret
def sE_GA_c28 : AC := .seq sE_GA_c25 sE_GA_c27
@[simp] theorem sE_GA_c28_eq : aw PP sE_GA_c28 K env H = aw PP sE_GA_c25 (seqK PP sE_GA_c27 K) env H := aw_seq sE_GA_c25 sE_GA_c27
def sE_GA_c29 : AC := .seq sE_GA_c5 sE_GA_c28
@[simp] theorem sE_GA_c29_eq : aw PP sE_GA_c29 K env H = aw PP sE_GA_c5 (seqK PP sE_GA_c28 K) env H := aw_seq sE_GA_c5 sE_GA_c28
def sE_GA_c30 : AC := .seq sE_GA_c0 sE_GA_c29
@[simp] theorem sE_GA_c30_eq : aw PP sE_GA_c30 K env H = aw PP sE_GA_c0 (seqK PP sE_GA_c29 K) env H := aw_seq sE_GA_c0 sE_GA_c29
def sE_GA_ac : AC := sE_GA_c30
@[simp] theorem sE_GA_ac_eq : aw PP sE_GA_ac K env H = aw PP sE_GA_c30 K env H := Eq.trans rfl rfl
def sE_GA_rs : List ARV := [.tmp 6]
abbrev sE_GA_id : Nat := 35
theorem sE_GA_comp : compF PP sE_GA_kl sE_GA_ow 3 Tryd.f35 = some (sE_GA_ac, sE_GA_rs) := by kernel_rfl
theorem sE_GA_enter {args : List AV} {H : AHeap} {post : ARes → AHeap → Prop} (ha : args.length = 3) (h : aw PP sE_GA_ac (retK sE_GA_rs post) (argEnv 0 args) H) : ACalls PP sE_GA_id args H post := .enterF Tryd.func35 PP_mix sE_GA_comp ha h

/-! emendate.grammarfile.Equal$2$1 -/
def gF_Equal_2_1_kl : Nat → List Nat
  | 0 => [0, 1, 4]
  | 1 => [2, 3, 5, 6, 7, 8, 9, 10, 11, 12, 13, 14, 15, 16]
  | _ => []
def gF_Equal_2_1_ow : Nat → Nat → Bool := fun _ _ => false
def gF_Equal_2_1_c0 : AC := .reg [⟨some 2, none, .box (.t 0) 4 38⟩, ⟨some 3, none, .box (.t 1) 4 38⟩, ⟨some 4, none, .mov (.c (.bool false))⟩] [0, 1, 4]
@[simp] theorem gF_Equal_2_1_c0_eq : aw PP gF_Equal_2_1_c0 K env H = awOps PP [⟨some 2, none, .box (.t 0) 4 38⟩, ⟨some 3, none, .box (.t 1) 4 38⟩, ⟨some 4, none, .mov (.c (.bool false))⟩] (regK K [0, 1, 4]) (panK K) env H := aw_reg _ _
def gF_Equal_2_1_c1 : AC := .reg [⟨some 5, none, .fa 1 3 (.t 2)⟩, ⟨some 6, none, .ld false 1 (.t 5)⟩, ⟨some 7, none, .fa 1 3 (.t 3)⟩, ⟨some 8, none, .ld false 1 (.t 7)⟩, ⟨some 9, none, .bin (.eql) (.t 6) (.t 8)⟩, ⟨some 10, none, .mov (.t 9)⟩, ⟨some 11, some (10, true), .fa 0 0 (.t 2)⟩, ⟨some 12, some (10, true), .ld true 3 (.t 11)⟩, ⟨some 13, some (10, true), .fa 0 0 (.t 3)⟩, ⟨some 14, some (10, true), .ld true 3 (.t 13)⟩, ⟨some 15, some (10, true), .call (.c (.fn (.func 37) [] [])) [.t 12, .t 14]⟩, ⟨some 16, none, .pick (.t 10) (.t 15) (.c (.bool false))⟩, ⟨some 4, none, .mov (.t 16)⟩] [2, 3, 5, 6, 7, 8, 9, 10, 11, 12, 13, 14, 15, 16]
@[simp] theorem gF_Equal_2_1_c1_eq : aw PP gF_Equal_2_1_c1 K env H = awOps PP [⟨some 5, none, .fa 1 3 (.t 2)⟩, ⟨some 6, none, .ld false 1 (.t 5)⟩, ⟨some 7, none, .fa 1 3 (.t 3)⟩, ⟨some 8, none, .ld false 1 (.t 7)⟩, ⟨some 9, none, .bin (.eql) (.t 6) (.t 8)⟩, ⟨some 10, none, .mov (.t 9)⟩, ⟨some 11, some (10, true), .fa 0 0 (.t 2)⟩, ⟨some 12, some (10, true), .ld true 3 (.t 11)⟩, ⟨some 13, some (10, true), .fa 0 0 (.t 3)⟩, ⟨some 14, some (10, true), .ld true 3 (.t 13)⟩, ⟨some 15, some (10, true), .call (.c (.fn (.func 37) [] [])) [.t 12, .t 14]⟩, ⟨some 16, none, .pick (.t 10) (.t 15) (.c (.bool false))⟩, ⟨some 4, none, .mov (.t 16)⟩] (regK K [2, 3, 5, 6, 7, 8, 9, 10, 11, 12, 13, 14, 15, 16]) (panK K) env H := aw_reg _ _
def gF_Equal_2_1_c2 : AC := .seq gF_Equal_2_1_c1 .ret
@[simp] theorem gF_Equal_2_1_c2_eq : aw PP gF_Equal_2_1_c2 K env H = aw PP gF_Equal_2_1_c1 (seqK PP .ret K) env H := aw_seq gF_Equal_2_1_c1 .ret
def gF_Equal_2_1_c3 : AC := .seq gF_Equal_2_1_c0 gF_Equal_2_1_c2
@[simp] theorem gF_Equal_2_1_c3_eq : aw PP gF_Equal_2_1_c3 K env H = aw PP gF_Equal_2_1_c0 (seqK PP gF_Equal_2_1_c2 K) env H := aw_seq gF_Equal_2_1_c0 gF_Equal_2_1_c2
def gF_Equal_2_1_ac : AC := gF_Equal_2_1_c3
@[simp] theorem gF_Equal_2_1_ac_eq : aw PP gF_Equal_2_1_ac K env H = aw PP gF_Equal_2_1_c3 K env H := Eq.trans rfl rfl
def gF_Equal_2_1_rs : List ARV := [.tmp 4]
abbrev gF_Equal_2_1_id : Nat := 36
theorem gF_Equal_2_1_comp : compF PP gF_Equal_2_1_kl gF_Equal_2_1_ow 2 Tryd.f36 = some (gF_Equal_2_1_ac, gF_Equal_2_1_rs) := by kernel_rfl
theorem gF_Equal_2_1_enter {args : List AV} {H : AHeap} {post : ARes → AHeap → Prop} (ha : args.length = 2) (h : aw PP gF_Equal_2_1_ac (retK gF_Equal_2_1_rs post) (argEnv 0 args) H) : ACalls PP gF_Equal_2_1_id args H post := .enterF Tryd.func36 PP_mix gF_Equal_2_1_comp ha h

/-! emendate.grammarfile.sameExpr -/
def gF_sameExpr_kl : Nat → List Nat
  | 0 => [0, 1, 4]
  | 1 => [2, 3, 5, 6, 7, 8, 9, 10, 11, 12, 13, 14, 15, 16, 17, 18, 19, 20, 21, 22, 23]
  | _ => []
def gF_sameExpr_ow : Nat → Nat → Bool := fun _ _ => false
def gF_sameExpr_c0 : AC := .reg [⟨some 2, none, .box (.t 0) 3 33⟩, ⟨some 3, none, .box (.t 1) 3 33⟩, ⟨some 4, none, .mov (.c (.bool false))⟩] [0, 1, 4]
@[simp] theorem gF_sameExpr_c0_eq : aw PP gF_sameExpr_c0 K env H = awOps PP [⟨some 2, none, .box (.t 0) 3 33⟩, ⟨some 3, none, .box (.t 1) 3 33⟩, ⟨some 4, none, .mov (.c (.bool false))⟩] (regK K [0, 1, 4]) (panK K) env H := aw_reg _ _
def gF_sameExpr_c1 : AC := .reg [⟨some 5, none, .fa 0 0 (.t 2)⟩, ⟨some 6, none, .ld false 1 (.t 5)⟩, ⟨some 7, none, .fa 0 0 (.t 3)⟩, ⟨some 8, none, .ld false 1 (.t 7)⟩, ⟨some 9, none, .bin (.eql) (.t 6) (.t 8)⟩, ⟨some 10, none, .mov (.t 9)⟩, ⟨some 11, some (10, true), .fa 1 1 (.t 2)⟩, ⟨some 12, some (10, true), .ld false 1 (.t 11)⟩, ⟨some 13, some (10, true), .fa 1 1 (.t 3)⟩, ⟨some 14, some (10, true), .ld false 1 (.t 13)⟩, ⟨some 15, some (10, true), .bin (.eql) (.t 12) (.t 14)⟩, ⟨some 16, none, .pick (.t 10) (.t 15) (.c (.bool false))⟩, ⟨some 17, none, .mov (.t 16)⟩, ⟨some 18, some (17, true), .fa 2 2 (.t 2)⟩, ⟨some 19, some (17, true), .ld false 1 (.t 18)⟩, ⟨some 20, some (17, true), .fa 2 2 (.t 3)⟩, ⟨some 21, some (17, true), .ld false 1 (.t 20)⟩, ⟨some 22, some (17, true), .call (.c (.fn (.func 58) [] [])) [.t 19, .t 21, .c (.fn (.func 37) [] [])]⟩, ⟨some 23, none, .pick (.t 17) (.t 22) (.c (.bool false))⟩, ⟨some 4, none, .mov (.t 23)⟩] [2, 3, 5, 6, 7, 8, 9, 10, 11, 12, 13, 14, 15, 16, 17, 18, 19, 20, 21, 22, 23]
@[simp] theorem gF_sameExpr_c1_eq : aw PP gF_sameExpr_c1 K env H = awOps PP [⟨some 5, none, .fa 0 0 (.t 2)⟩, ⟨some 6, none, .ld false 1 (.t 5)⟩, ⟨some 7, none, .fa 0 0 (.t 3)⟩, ⟨some 8, none, .ld false 1 (.t 7)⟩, ⟨some 9, none, .bin (.eql) (.t 6) (.t 8)⟩, ⟨some 10, none, .mov (.t 9)⟩, ⟨some 11, some (10, true), .fa 1 1 (.t 2)⟩, ⟨some 12, some (10, true), .ld false 1 (.t 11)⟩, ⟨some 13, some (10, true), .fa 1 1 (.t 3)⟩, ⟨some 14, some (10, true), .ld false 1 (.t 13)⟩, ⟨some 15, some (10, true), .bin (.eql) (.t 12) (.t 14)⟩, ⟨some 16, none, .pick (.t 10) (.t 15) (.c (.bool false))⟩, ⟨some 17, none, .mov (.t 16)⟩, ⟨some 18, some (17, true), .fa 2 2 (.t 2)⟩, ⟨some 19, some (17, true), .ld false 1 (.t 18)⟩, ⟨some 20, some (17, true), .fa 2 2 (.t 3)⟩, ⟨some 21, some (17, true), .ld false 1 (.t 20)⟩, ⟨some 22, some (17, true), .call (.c (.fn (.func 58) [] [])) [.t 19, .t 21, .c (.fn (.func 37) [] [])]⟩, ⟨some 23, none, .pick (.t 17) (.t 22) (.c (.bool false))⟩, ⟨some 4, none, .mov (.t 23)⟩] (regK K [2, 3, 5, 6, 7, 8, 9, 10, 11, 12, 13, 14, 15, 16, 17, 18, 19, 20, 21, 22, 23]) (panK K) env H := aw_reg _ _
def gF_sameExpr_c2 : AC := .seq gF_sameExpr_c1 .ret
@[simp] theorem gF_sameExpr_c2_eq : aw PP gF_sameExpr_c2 K env H = aw PP gF_sameExpr_c1 (seqK PP .ret K) env H := aw_seq gF_sameExpr_c1 .ret
def gF_sameExpr_c3 : AC := .seq gF_sameExpr_c0 gF_sameExpr_c2
@[simp] theorem gF_sameExpr_c3_eq : aw PP gF_sameExpr_c3 K env H = aw PP gF_sameExpr_c0 (seqK PP gF_sameExpr_c2 K) env H := aw_seq gF_sameExpr_c0 gF_sameExpr_c2
def gF_sameExpr_ac : AC := gF_sameExpr_c3
@[simp] theorem gF_sameExpr_ac_eq : aw PP gF_sameExpr_ac K env H = aw PP gF_sameExpr_c3 K env H := Eq.trans rfl rfl
def gF_sameExpr_rs : List ARV := [.tmp 4]
abbrev gF_sameExpr_id : Nat := 37
theorem gF_sameExpr_comp : compF PP gF_sameExpr_kl gF_sameExpr_ow 2 Tryd.f37 = some (gF_sameExpr_ac, gF_sameExpr_rs) := by kernel_rfl
theorem gF_sameExpr_enter {args : List AV} {H : AHeap} {post : ARes → AHeap → Prop} (ha : args.length = 2) (h : aw PP gF_sameExpr_ac (retK gF_sameExpr_rs post) (argEnv 0 args) H) : ACalls PP gF_sameExpr_id args H post := .enterF Tryd.func37 PP_mix gF_sameExpr_comp ha h

-- taken in parts: (*strings.Builder).WriteString
def sB_WriteString_kl : Nat → List Nat
  | 0 => [4, 5]
  | 1 => [6, 7]
  | 2 => [0, 8, 9, 10, 11, 12, 13, 14, 15, 16]
  | 3 => [1, 17, 18]
  | _ => []
def sB_WriteString_ow : Nat → Nat → Bool := fun _ _ => false
abbrev sB_WriteString_id : Nat := 40
def sB_WriteString_c0 : AC := .reg [⟨some 4, none, .mov (.c (.int (.i64) 0))⟩, ⟨some 5, none, .mov (.c (.nili))⟩] [4, 5]
@[simp] theorem sB_WriteString_c0_eq : aw PP sB_WriteString_c0 K env H = awOps PP [⟨some 4, none, .mov (.c (.int (.i64) 0))⟩, ⟨some 5, none, .mov (.c (.nili))⟩] (regK K [4, 5]) (panK K) env H := aw_reg _ _
def sB_WriteString_p0_ac : AC := sB_WriteString_c0
@[simp] theorem sB_WriteString_p0_ac_eq : aw PP sB_WriteString_p0_ac K env H = aw PP sB_WriteString_c0 K env H := Eq.trans rfl rfl
theorem sB_WriteString_p0_comp : comp PP sB_WriteString_kl sB_WriteString_ow 19 (codeAt (bodyOf Tryd.f40) [0]) = some sB_WriteString_p0_ac := by kernel_rfl
def sB_WriteString_c1 : AC := .reg [⟨some 6, none, .mov (.t 0)⟩, ⟨some 7, none, .call (.c (.fn (.func 59) [] [])) [.t 6]⟩] [6, 7]
@[simp] theorem sB_WriteString_c1_eq : aw PP sB_WriteString_c1 K env H = awOps PP [⟨some 6, none, .mov (.t 0)⟩, ⟨some 7, none, .call (.c (.fn (.func 59) [] [])) [.t 6]⟩] (regK K [6, 7]) (panK K) env H := aw_reg _ _
def sB_WriteString_p1_ac : AC := sB_WriteString_c1
@[simp] theorem sB_WriteString_p1_ac_eq : aw PP sB_WriteString_p1_ac K env H = aw PP sB_WriteString_c1 K env H := Eq.trans rfl rfl
theorem sB_WriteString_p1_comp : comp PP sB_WriteString_kl sB_WriteString_ow 19 (codeAt (bodyOf Tryd.f40) [1, 0]) = some sB_WriteString_p1_ac := by kernel_rfl
def sB_WriteString_c2 : AC := .reg [⟨some 17, none, .mov (.t 1)⟩, ⟨some 18, none, .lens (.t 17)⟩, ⟨some 4, none, .mov (.t 18)⟩, ⟨some 5, none, .mov (.c (.nili))⟩] [1, 17, 18]
@[simp] theorem sB_WriteString_c2_eq : aw PP sB_WriteString_c2 K env H = awOps PP [⟨some 17, none, .mov (.t 1)⟩, ⟨some 18, none, .lens (.t 17)⟩, ⟨some 4, none, .mov (.t 18)⟩, ⟨some 5, none, .mov (.c (.nili))⟩] (regK K [1, 17, 18]) (panK K) env H := aw_reg _ _
def sB_WriteString_c3 : AC := .seq sB_WriteString_c2 .ret
@[simp] theorem sB_WriteString_c3_eq : aw PP sB_WriteString_c3 K env H = aw PP sB_WriteString_c2 (seqK PP .ret K) env H := aw_seq sB_WriteString_c2 .ret
def sB_WriteString_p2_ac : AC := sB_WriteString_c3
@[simp] theorem sB_WriteString_p2_ac_eq : aw PP sB_WriteString_p2_ac K env H = aw PP sB_WriteString_c3 K env H := Eq.trans rfl rfl
theorem sB_WriteString_p2_comp : comp PP sB_WriteString_kl sB_WriteString_ow 19 (codeAt (bodyOf Tryd.f40) [1, 1, 1]) = some sB_WriteString_p2_ac := by kernel_rfl
def sB_WriteString_rs : List ARV := [.tmp 4, .tmp 5]
theorem sB_WriteString_rsc : compRes PP Tryd.f40.results.toList = some sB_WriteString_rs := by kernel_rfl

/-! emendate.grammarfile.word -/
def gF_word_kl : Nat → List Nat
  | 0 => [2]
  | 1 => [0]
  | 2 => [5]
  | 3 => [3, 4]
  | 4 => [3, 4, 7]
  | 5 => [6]
  | 6 => [6]
  | _ => []
def gF_word_ow : Nat → Nat → Bool := fun _ _ => false
def gF_word_c0 : AC := .reg [⟨some 2, none, .mov (.c (.str []))⟩] [2]
@[simp] theorem gF_word_c0_eq : aw PP gF_word_c0 K env H = awOps PP [⟨some 2, none, .mov (.c (.str []))⟩] (regK K [2]) (panK K) env H := aw_reg _ _
def gF_word_c1 : AC := .reg [⟨some 3, none, .mov (.t 0)⟩] [0]
@[simp] theorem gF_word_c1_eq : aw PP gF_word_c1 K env H = awOps PP [⟨some 3, none, .mov (.t 0)⟩] (regK K [0]) (panK K) env H := aw_reg _ _
def gF_word_c2 : AC := .reg [⟨some 5, none, .bin (.eql) (.t 3) (.c (.int (.i64) 1))⟩, ⟨some 4, none, .mov (.t 5)⟩] [5]
@[simp] theorem gF_word_c2_eq : aw PP gF_word_c2 K env H = awOps PP [⟨some 5, none, .bin (.eql) (.t 3) (.c (.int (.i64) 1))⟩, ⟨some 4, none, .mov (.t 5)⟩] (regK K [5]) (panK K) env H := aw_reg _ _
def gF_word_c3 : AC := .reg [⟨some 2, none, .mov (.c (.str [108, 101, 102, 116]))⟩] [3, 4]
@[simp] theorem gF_word_c3_eq : aw PP gF_word_c3 K env H = awOps PP [⟨some 2, none, .mov (.c (.str [108, 101, 102, 116]))⟩] (regK K [3, 4]) (panK K) env H := aw_reg _ _
def gF_word_c4 : AC := .seq gF_word_c3 .ret
@[simp] theorem gF_word_c4_eq : aw PP gF_word_c4 K env H = aw PP gF_word_c3 (seqK PP .ret K) env H := aw_seq gF_word_c3 .ret
def gF_word_c5 : AC := .reg [⟨some 7, none, .bin (.eql) (.t 3) (.c (.int (.i64) 2))⟩, ⟨some 6, none, .mov (.t 7)⟩] [3, 4, 7]
@[simp] theorem gF_word_c5_eq : aw PP gF_word_c5 K env H = awOps PP [⟨some 7, none, .bin (.eql) (.t 3) (.c (.int (.i64) 2))⟩, ⟨some 6, none, .mov (.t 7)⟩] (regK K [3, 4, 7]) (panK K) env H := aw_reg _ _
def gF_word_c6 : AC := .reg [⟨some 2, none, .mov (.c (.str [114, 105, 103, 104, 116]))⟩] [6]
@[simp] theorem gF_word_c6_eq : aw PP gF_word_c6 K env H = awOps PP [⟨some 2, none, .mov (.c (.str [114, 105, 103, 104, 116]))⟩] (regK K [6]) (panK K) env H := aw_reg _ _
def gF_word_c7 : AC := .seq gF_word_c6 .ret
@[simp] theorem gF_word_c7_eq : aw PP gF_word_c7 K env H = aw PP gF_word_c6 (seqK PP .ret K) env H := aw_seq gF_word_c6 .ret
def gF_word_c8 : AC := .cond (.t 6) gF_word_c7 .skip
@[simp] theorem gF_word_c8_eq : aw PP gF_word_c8 K env H = condQ PP (Opd.ev env (.t 6)) gF_word_c7 .skip K env H := aw_cond _ gF_word_c7 .skip
def gF_word_c9 : AC := .seq gF_word_c5 gF_word_c8
@[simp] theorem gF_word_c9_eq : aw PP gF_word_c9 K env H = aw PP gF_word_c5 (seqK PP gF_word_c8 K) env H := aw_seq gF_word_c5 gF_word_c8
def gF_word_c10 : AC := .cond (.t 4) gF_word_c4 gF_word_c9
@[simp] theorem gF_word_c10_eq : aw PP gF_word_c10 K env H = condQ PP (Opd.ev env (.t 4)) gF_word_c4 gF_word_c9 K env H := aw_cond _ gF_word_c4 gF_word_c9
def gF_word_c11 : AC := .seq gF_word_c2 gF_word_c10
@[simp] theorem gF_word_c11_eq : aw PP gF_word_c11 K env H = aw PP gF_word_c2 (seqK PP gF_word_c10 K) env H := aw_seq gF_word_c2 gF_word_c10
def gF_word_c12 : AC := .block 0 gF_word_c11
@[simp] theorem gF_word_c12_eq : aw PP gF_word_c12 K env H = aw PP gF_word_c11 (blockK 0 K) env H := aw_block _ gF_word_c11
def gF_word_c13 : AC := .seq gF_word_c1 gF_word_c12
@[simp] theorem gF_word_c13_eq : aw PP gF_word_c13 K env H = aw PP gF_word_c1 (seqK PP gF_word_c12 K) env H := aw_seq gF_word_c1 gF_word_c12
def gF_word_c14 : AC := .reg [⟨some 2, none, .mov (.c (.str [110, 111, 110, 101]))⟩] [6]
@[simp] theorem gF_word_c14_eq : aw PP gF_word_c14 K env H = awOps PP [⟨some 2, none, .mov (.c (.str [110, 111, 110, 101]))⟩] (regK K [6]) (panK K) env H := aw_reg _ _
def gF_word_c15 : AC := .seq gF_word_c14 .ret
@[simp] theorem gF_word_c15_eq : aw PP gF_word_c15 K env H = aw PP gF_word_c14 (seqK PP .ret K) env H := aw_seq gF_word_c14 .ret
def gF_word_c16 : AC := .seq gF_word_c13 gF_word_c15
@[simp] theorem gF_word_c16_eq : aw PP gF_word_c16 K env H = aw PP gF_word_c13 (seqK PP gF_word_c15 K) env H := aw_seq gF_word_c13 gF_word_c15
def gF_word_c17 : AC := .seq gF_word_c0 gF_word_c16
@[simp] theorem gF_word_c17_eq : aw PP gF_word_c17 K env H = aw PP gF_word_c0 (seqK PP gF_word_c16 K) env H := aw_seq gF_word_c0 gF_word_c16
def gF_word_ac : AC := gF_word_c17
@[simp] theorem gF_word_ac_eq : aw PP gF_word_ac K env H = aw PP gF_word_c17 K env H := Eq.trans rfl rfl
def gF_word_rs : List ARV := [.tmp 2]
abbrev gF_word_id : Nat := 41
theorem gF_word_comp : compF PP gF_word_kl gF_word_ow 1 Tryd.f41 = some (gF_word_ac, gF_word_rs) := by kernel_rfl
theorem gF_word_enter {args : List AV} {H : AHeap} {post : ARes → AHeap → Prop} (ha : args.length = 1) (h : aw PP gF_word_ac (retK gF_word_rs post) (argEnv 0 args) H) : ACalls PP gF_word_id args H post := .enterF Tryd.func41 PP_mix gF_word_comp ha h

/-! strings.Join -/
def strings_Join_kl : Nat → List Nat
  | 0 => [4]
  | 1 => [11]
  | 2 => [14]
  | 3 => [0, 1, 12, 13]
  | 4 => [12, 13, 16]
  | 5 => [0, 1, 15, 17, 18, 19]
  | 6 => [15]
  | 7 => [20, 21]
  | 8 => [22, 23, 24, 25, 26, 27, 28]
  | 9 => [29, 30]
  | 10 => [29, 31, 32, 33, 34, 35, 36, 37, 38]
  | 11 => [22]
  | 13 => [42, 43, 44]
  | 14 => [45, 46, 47, 48]
  | 15 => [49, 50]
  | 16 => [7, 49, 51, 52, 53, 54]
  | 17 => [55]
  | 18 => [39, 40, 41, 42]
  | 19 => [5, 56, 57]
  | 20 => [58, 59, 60, 61]
  | 21 => [0, 62]
  | 23 => [66, 67, 68]
  | 24 => [69, 70]
  | 25 => [10, 71, 72]
  | 26 => [73]
  | 27 => [1, 8, 63, 64, 65, 66, 74]
  | _ => []
def strings_Join_ow : Nat → Nat → Bool := fun _ _ => false
def strings_Join_c0 : AC := .reg [⟨some 4, none, .mov (.c (.str []))⟩] [4]
@[simp] theorem strings_Join_c0_eq : aw PP strings_Join_c0 K env H = awOps PP [⟨some 4, none, .mov (.c (.str []))⟩] (regK K [4]) (panK K) env H := aw_reg _ _
def strings_Join_c1 : AC := .reg [⟨some 11, none, .mov (.t 0)⟩, ⟨some 12, none, .lenl (.t 11)⟩] [11]
@[simp] theorem strings_Join_c1_eq : aw PP strings_Join_c1 K env H = awOps PP [⟨some 11, none, .mov (.t 0)⟩, ⟨some 12, none, .lenl (.t 11)⟩] (regK K [11]) (panK K) env H := aw_reg _ _
def strings_Join_c2 : AC := .reg [⟨some 14, none, .bin (.eql) (.t 12) (.c (.int (.i64) 0))⟩, ⟨some 13, none, .mov (.t 14)⟩] [14]
@[simp] theorem strings_Join_c2_eq : aw PP strings_Join_c2 K env H = awOps PP [⟨some 14, none, .bin (.eql) (.t 12) (.c (.int (.i64) 0))⟩, ⟨some 13, none, .mov (.t 14)⟩] (regK K [14]) (panK K) env H := aw_reg _ _
def strings_Join_c3 : AC := .reg [⟨some 4, none, .mov (.c (.str []))⟩] [0, 1, 12, 13]
@[simp] theorem strings_Join_c3_eq : aw PP strings_Join_c3 K env H = awOps PP [⟨some 4, none, .mov (.c (.str []))⟩] (regK K [0, 1, 12, 13]) (panK K) env H := aw_reg _ _
def strings_Join_c4 : AC := .seq strings_Join_c3 .ret
@[simp] theorem strings_Join_c4_eq : aw PP strings_Join_c4 K env H = aw PP strings_Join_c3 (seqK PP .ret K) env H := aw_seq strings_Join_c3 .ret
def strings_Join_c5 : AC := .reg [⟨some 16, none, .bin (.eql) (.t 12) (.c (.int (.i64) 1))⟩, ⟨some 15, none, .mov (.t 16)⟩] [12, 13, 16]
@[simp] theorem strings_Join_c5_eq : aw PP strings_Join_c5 K env H = awOps PP [⟨some 16, none, .bin (.eql) (.t 12) (.c (.int (.i64) 1))⟩, ⟨some 15, none, .mov (.t 16)⟩] (regK K [12, 13, 16]) (panK K) env H := aw_reg _ _
def strings_Join_c6 : AC := .reg [⟨some 17, none, .mov (.t 0)⟩, ⟨some 18, none, .ixa 1 (.t 17) (.c (.int (.i64) 0))⟩, ⟨some 19, none, .ld false 1 (.t 18)⟩, ⟨some 4, none, .mov (.t 19)⟩] [0, 1, 15, 17, 18, 19]
@[simp] theorem strings_Join_c6_eq : aw PP strings_Join_c6 K env H = awOps PP [⟨some 17, none, .mov (.t 0)⟩, ⟨some 18, none, .ixa 1 (.t 17) (.c (.int (.i64) 0))⟩, ⟨some 19, none, .ld false 1 (.t 18)⟩, ⟨some 4, none, .mov (.t 19)⟩] (regK K [0, 1, 15, 17, 18, 19]) (panK K) env H := aw_reg _ _
def strings_Join_c7 : AC := .seq strings_Join_c6 .ret
@[simp] theorem strings_Join_c7_eq : aw PP strings_Join_c7 K env H = aw PP strings_Join_c6 (seqK PP .ret K) env H := aw_seq strings_Join_c6 .ret
def strings_Join_c8 : AC := .cond (.t 15) strings_Join_c7 .skip
@[simp] theorem strings_Join_c8_eq : aw PP strings_Join_c8 K env H = condQ PP (Opd.ev env (.t 15)) strings_Join_c7 .skip K env H := aw_cond _ strings_Join_c7 .skip
def strings_Join_c9 : AC := .seq strings_Join_c5 strings_Join_c8
@[simp] theorem strings_Join_c9_eq : aw PP strings_Join_c9 K env H = aw PP strings_Join_c5 (seqK PP strings_Join_c8 K) env H := aw_seq strings_Join_c5 strings_Join_c8
def strings_Join_c10 : AC := .cond (.t 13) strings_Join_c4 strings_Join_c9
@[simp] theorem strings_Join_c10_eq : aw PP strings_Join_c10 K env H = condQ PP (Opd.ev env (.t 13)) strings_Join_c4 strings_Join_c9 K env H := aw_cond _ strings_Join_c4 strings_Join_c9
def strings_Join_c11 : AC := .seq strings_Join_c2 strings_Join_c10
@[simp] theorem strings_Join_c11_eq : aw PP strings_Join_c11 K env H = aw PP strings_Join_c2 (seqK PP strings_Join_c10 K) env H := aw_seq strings_Join_c2 strings_Join_c10
def strings_Join_c12 : AC := .block 0 strings_Join_c11
@[simp] theorem strings_Join_c12_eq : aw PP strings_Join_c12 K env H = aw PP strings_Join_c11 (blockK 0 K) env H := aw_block _ strings_Join_c11
def strings_Join_c13 : AC := .seq strings_Join_c1 strings_Join_c12
@[simp] theorem strings_Join_c13_eq : aw PP strings_Join_c13 K env H = aw PP strings_Join_c1 (seqK PP strings_Join_c12 K) env H := aw_seq strings_Join_c1 strings_Join_c12
def strings_Join_c14 : AC := .reg [⟨some 5, none, .mov (.c (.int (.i64) 0))⟩] [15]
@[simp] theorem strings_Join_c14_eq : aw PP strings_Join_c14 K env H = awOps PP [⟨some 5, none, .mov (.c (.int (.i64) 0))⟩] (regK K [15]) (panK K) env H := aw_reg _ _
def strings_Join_c15 : AC := .reg [⟨some 20, none, .mov (.t 1)⟩, ⟨some 21, none, .lens (.t 20)⟩, ⟨some 22, none, .bin (.gtr) (.t 21) (.c (.int (.i64) 0))⟩] [20, 21]
@[simp] theorem strings_Join_c15_eq : aw PP strings_Join_c15 K env H = awOps PP [⟨some 20, none, .mov (.t 1)⟩, ⟨some 21, none, .lens (.t 20)⟩, ⟨some 22, none, .bin (.gtr) (.t 21) (.c (.int (.i64) 0))⟩] (regK K [20, 21]) (panK K) env H := aw_reg _ _
def strings_Join_c16 : AC := .reg [⟨some 23, none, .mov (.t 1)⟩, ⟨some 24, none, .lens (.t 23)⟩, ⟨some 25, none, .mov (.t 0)⟩, ⟨some 26, none, .lenl (.t 25)⟩, ⟨some 27, none, .bin (.sub) (.t 26) (.c (.int (.i64) 1))⟩, ⟨some 28, none, .bin (.quo) (.c (.int (.i64) 9223372036854775807)) (.t 27)⟩, ⟨some 29, none, .bin (.geq) (.t 24) (.t 28)⟩] [22, 23, 24, 25, 26, 27, 28]
@[simp] theorem strings_Join_c16_eq : aw PP strings_Join_c16 K env H = awOps PP [⟨some 23, none, .mov (.t 1)⟩, ⟨some 24, none, .lens (.t 23)⟩, ⟨some 25, none, .mov (.t 0)⟩, ⟨some 26, none, .lenl (.t 25)⟩, ⟨some 27, none, .bin (.sub) (.t 26) (.c (.int (.i64) 1))⟩, ⟨some 28, none, .bin (.quo) (.c (.int (.i64) 9223372036854775807)) (.t 27)⟩, ⟨some 29, none, .bin (.geq) (.t 24) (.t 28)⟩] (regK K [22, 23, 24, 25, 26, 27, 28]) (panK K) env H := aw_reg _ _
def strings_Join_c17 : AC := .reg [⟨some 30, none, .mkif 9 (.c (.str [115, 116, 114, 105, 110, 103, 115, 58, 32, 74, 111, 105, 110, 32, 111, 117, 116, 112, 117, 116, 32, 108, 101, 110, 103, 116, 104, 32, 111, 118, 101, 114, 102, 108, 111, 119]))⟩, ⟨none, none, .pan (.t 30)⟩] [29, 30]
@[simp] theorem strings_Join_c17_eq : aw PP strings_Join_c17 K env H = awOps PP [⟨some 30, none, .mkif 9 (.c (.str [115, 116, 114, 105, 110, 103, 115, 58, 32, 74, 111, 105, 110, 32, 111, 117, 116, 112, 117, 116, 32, 108, 101, 110, 103, 116, 104, 32, 111, 118, 101, 114, 102, 108, 111, 119]))⟩, ⟨none, none, .pan (.t 30)⟩] (regK K [29, 30]) (panK K) env H := aw_reg _ _
def strings_Join_c18 : AC := .cond (.t 29) strings_Join_c17 .skip
@[simp] theorem strings_Join_c18_eq : aw PP strings_Join_c18 K env H = condQ PP (Opd.ev env (.t 29)) strings_Join_c17 .skip K env H := aw_cond _ strings_Join_c17 .skip
def strings_Join_c19 : AC := .seq strings_Join_c16 strings_Join_c18
@[simp] theorem strings_Join_c19_eq : aw PP strings_Join_c19 K env H = aw PP strings_Join_c16 (seqK PP strings_Join_c18 K) env H := aw_seq strings_Join_c16 strings_Join_c18
def strings_Join_c20 : AC := .reg [⟨some 31, none, .mov (.t 5)⟩, ⟨some 32, none, .mov (.t 1)⟩, ⟨some 33, none, .lens (.t 32)⟩, ⟨some 34, none, .mov (.t 0)⟩, ⟨some 35, none, .lenl (.t 34)⟩, ⟨some 36, none, .bin (.sub) (.t 35) (.c (.int (.i64) 1))⟩, ⟨some 37, none, .bin (.mul) (.t 33) (.t 36)⟩, ⟨some 38, none, .bin (.add) (.t 31) (.t 37)⟩, ⟨some 5, none, .mov (.t 38)⟩] [29, 31, 32, 33, 34, 35, 36, 37, 38]
@[simp] theorem strings_Join_c20_eq : aw PP strings_Join_c20 K env H = awOps PP [⟨some 31, none, .mov (.t 5)⟩, ⟨some 32, none, .mov (.t 1)⟩, ⟨some 33, none, .lens (.t 32)⟩, ⟨some 34, none, .mov (.t 0)⟩, ⟨some 35, none, .lenl (.t 34)⟩, ⟨some 36, none, .bin (.sub) (.t 35) (.c (.int (.i64) 1))⟩, ⟨some 37, none, .bin (.mul) (.t 33) (.t 36)⟩, ⟨some 38, none, .bin (.add) (.t 31) (.t 37)⟩, ⟨some 5, none, .mov (.t 38)⟩] (regK K [29, 31, 32, 33, 34, 35, 36, 37, 38]) (panK K) env H := aw_reg _ _
def strings_Join_c21 : AC := .seq strings_Join_c19 strings_Join_c20
@[simp] theorem strings_Join_c21_eq : aw PP strings_Join_c21 K env H = aw PP strings_Join_c19 (seqK PP strings_Join_c20 K) env H := aw_seq strings_Join_c19 strings_Join_c20
def strings_Join_c22 : AC := .cond (.t 22) strings_Join_c21 .skip
@[simp] theorem strings_Join_c22_eq : aw PP strings_Join_c22 K env H = condQ PP (Opd.ev env (.t 22)) strings_Join_c21 .skip K env H := aw_cond _ strings_Join_c21 .skip
def strings_Join_c23 : AC := .seq strings_Join_c15 strings_Join_c22
@[simp] theorem strings_Join_c23_eq : aw PP strings_Join_c23 K env H = aw PP strings_Join_c15 (seqK PP strings_Join_c22 K) env H := aw_seq strings_Join_c15 strings_Join_c22
def strings_Join_c24 : AC := .reg [⟨some 39, none, .mov (.t 0)⟩, ⟨some 40, none, .lenl (.t 39)⟩, ⟨some 41, none, .mov (.c (.int (.i64) 0))⟩] [22]
@[simp] theorem strings_Join_c24_eq : aw PP strings_Join_c24 K env H = awOps PP [⟨some 39, none, .mov (.t 0)⟩, ⟨some 40, none, .lenl (.t 39)⟩, ⟨some 41, none, .mov (.c (.int (.i64) 0))⟩] (regK K [22]) (panK K) env H := aw_reg _ _
def strings_Join_c25 : AC := .reg [⟨some 42, none, .bin (.lss) (.t 41) (.t 40)⟩] []
@[simp] theorem strings_Join_c25_eq : aw PP strings_Join_c25 K env H = awOps PP [⟨some 42, none, .bin (.lss) (.t 41) (.t 40)⟩] (regK K []) (panK K) env H := aw_reg _ _
def strings_Join_c26 : AC := .cond (.t 42) .skip (.exit 1)
@[simp] theorem strings_Join_c26_eq : aw PP strings_Join_c26 K env H = condQ PP (Opd.ev env (.t 42)) .skip (.exit 1) K env H := aw_cond _ .skip (.exit 1)
def strings_Join_c27 : AC := .reg [⟨some 43, none, .ixa 1 (.t 39) (.t 41)⟩, ⟨some 44, none, .ld false 1 (.t 43)⟩, ⟨some 7, none, .mov (.t 44)⟩] [42, 43, 44]
@[simp] theorem strings_Join_c27_eq : aw PP strings_Join_c27 K env H = awOps PP [⟨some 43, none, .ixa 1 (.t 39) (.t 41)⟩, ⟨some 44, none, .ld false 1 (.t 43)⟩, ⟨some 7, none, .mov (.t 44)⟩] (regK K [42, 43, 44]) (panK K) env H := aw_reg _ _
def strings_Join_c28 : AC := .reg [⟨some 45, none, .mov (.t 7)⟩, ⟨some 46, none, .lens (.t 45)⟩, ⟨some 47, none, .mov (.t 5)⟩, ⟨some 48, none, .bin (.sub) (.c (.int (.i64) 9223372036854775807)) (.t 47)⟩, ⟨some 49, none, .bin (.gtr) (.t 46) (.t 48)⟩] [45, 46, 47, 48]
@[simp] theorem strings_Join_c28_eq : aw PP strings_Join_c28 K env H = awOps PP [⟨some 45, none, .mov (.t 7)⟩, ⟨some 46, none, .lens (.t 45)⟩, ⟨some 47, none, .mov (.t 5)⟩, ⟨some 48, none, .bin (.sub) (.c (.int (.i64) 9223372036854775807)) (.t 47)⟩, ⟨some 49, none, .bin (.gtr) (.t 46) (.t 48)⟩] (regK K [45, 46, 47, 48]) (panK K) env H := aw_reg _ _
def strings_Join_c29 : AC := .reg [⟨some 50, none, .mkif 9 (.c (.str [115, 116, 114, 105, 110, 103, 115, 58, 32, 74, 111, 105, 110, 32, 111, 117, 116, 112, 117, 116, 32, 108, 101, 110, 103, 116, 104, 32, 111, 118, 101, 114, 102, 108, 111, 119]))⟩, ⟨none, none, .pan (.t 50)⟩] [49, 50]
@[simp] theorem strings_Join_c29_eq : aw PP strings_Join_c29 K env H = awOps PP [⟨some 50, none, .mkif 9 (.c (.str [115, 116, 114, 105, 110, 103, 115, 58, 32, 74, 111, 105, 110, 32, 111, 117, 116, 112, 117, 116, 32, 108, 101, 110, 103, 116, 104, 32, 111, 118, 101, 114, 102, 108, 111, 119]))⟩, ⟨none, none, .pan (.t 50)⟩] (regK K [49, 50]) (panK K) env H := aw_reg _ _
def strings_Join_c30 : AC := .cond (.t 49) strings_Join_c29 .skip
@[simp] theorem strings_Join_c30_eq : aw PP strings_Join_c30 K env H = condQ PP (Opd.ev env (.t 49)) strings_Join_c29 .skip K env H := aw_cond _ strings_Join_c29 .skip
def strings_Join_c31 : AC := .seq strings_Join_c28 strings_Join_c30
@[simp] theorem strings_Join_c31_eq : aw PP strings_Join_c31 K env H = aw PP strings_Join_c28 (seqK PP strings_Join_c30 K) env H := aw_seq strings_Join_c28 strings_Join_c30
def strings_Join_c32 : AC := .reg [⟨some 51, none, .mov (.t 5)⟩, ⟨some 52, none, .mov (.t 7)⟩, ⟨some 53, none, .lens (.t 52)⟩, ⟨some 54, none, .bin (.add) (.t 51) (.t 53)⟩, ⟨some 5, none, .mov (.t 54)⟩] [7, 49, 51, 52, 53, 54]
@[simp] theorem strings_Join_c32_eq : aw PP strings_Join_c32 K env H = awOps PP [⟨some 51, none, .mov (.t 5)⟩, ⟨some 52, none, .mov (.t 7)⟩, ⟨some 53, none, .lens (.t 52)⟩, ⟨some 54, none, .bin (.add) (.t 51) (.t 53)⟩, ⟨some 5, none, .mov (.t 54)⟩] (regK K [7, 49, 51, 52, 53, 54]) (panK K) env H := aw_reg _ _
def strings_Join_c33 : AC := .seq strings_Join_c31 strings_Join_c32
@[simp] theorem strings_Join_c33_eq : aw PP strings_Join_c33 K env H = aw PP strings_Join_c31 (seqK PP strings_Join_c32 K) env H := aw_seq strings_Join_c31 strings_Join_c32
def strings_Join_c34 : AC := .seq strings_Join_c27 strings_Join_c33
@[simp] theorem strings_Join_c34_eq : aw PP strings_Join_c34 K env H = aw PP strings_Join_c27 (seqK PP strings_Join_c33 K) env H := aw_seq strings_Join_c27 strings_Join_c33
def strings_Join_c35 : AC := .block 2 strings_Join_c34
@[simp] theorem strings_Join_c35_eq : aw PP strings_Join_c35 K env H = aw PP strings_Join_c34 (blockK 2 K) env H := aw_block _ strings_Join_c34
def strings_Join_c36 : AC := .reg [⟨some 55, none, .bin (.add) (.t 41) (.c (.int (.i64) 1))⟩, ⟨some 41, none, .mov (.t 55)⟩] [55]
@[simp] theorem strings_Join_c36_eq : aw PP strings_Join_c36 K env H = awOps PP [⟨some 55, none, .bin (.add) (.t 41) (.c (.int (.i64) 1))⟩, ⟨some 41, none, .mov (.t 55)⟩] (regK K [55]) (panK K) env H := aw_reg _ _
def strings_Join_c37 : AC := .seq strings_Join_c35 strings_Join_c36
@[simp] theorem strings_Join_c37_eq : aw PP strings_Join_c37 K env H = aw PP strings_Join_c35 (seqK PP strings_Join_c36 K) env H := aw_seq strings_Join_c35 strings_Join_c36
def strings_Join_c38 : AC := .seq strings_Join_c26 strings_Join_c37
@[simp] theorem strings_Join_c38_eq : aw PP strings_Join_c38 K env H = aw PP strings_Join_c26 (seqK PP strings_Join_c37 K) env H := aw_seq strings_Join_c26 strings_Join_c37
def strings_Join_c39 : AC := .seq strings_Join_c25 strings_Join_c38
@[simp] theorem strings_Join_c39_eq : aw PP strings_Join_c39 K env H = aw PP strings_Join_c25 (seqK PP strings_Join_c38 K) env H := aw_seq strings_Join_c25 strings_Join_c38
def strings_Join_c40 : AC := .loop strings_Join_c39
def strings_Join_c41 : AC := .block 1 strings_Join_c40
@[simp] theorem strings_Join_c41_eq : aw PP strings_Join_c41 K env H = aw PP strings_Join_c40 (blockK 1 K) env H := aw_block _ strings_Join_c40
def strings_Join_c42 : AC := .seq strings_Join_c24 strings_Join_c41
@[simp] theorem strings_Join_c42_eq : aw PP strings_Join_c42 K env H = aw PP strings_Join_c24 (seqK PP strings_Join_c41 K) env H := aw_seq strings_Join_c24 strings_Join_c41
def strings_Join_c43 : AC := .reg [⟨some 8, none, .alloc (.struct [.nilp, .nils]) 67⟩] [39, 40, 41, 42]
@[simp] theorem strings_Join_c43_eq : aw PP strings_Join_c43 K env H = awOps PP [⟨some 8, none, .alloc (.struct [.nilp, .nils]) 67⟩] (regK K [39, 40, 41, 42]) (panK K) env H := aw_reg _ _
def strings_Join_c44 : AC := .reg [⟨some 56, none, .mov (.t 5)⟩, ⟨some 57, none, .call (.c (.fn (.func 60) [] [])) [.t 8, .t 56]⟩] [5, 56, 57]
@[simp] theorem strings_Join_c44_eq : aw PP strings_Join_c44 K env H = awOps PP [⟨some 56, none, .mov (.t 5)⟩, ⟨some 57, none, .call (.c (.fn (.func 60) [] [])) [.t 8, .t 56]⟩] (regK K [5, 56, 57]) (panK K) env H := aw_reg _ _
def strings_Join_c45 : AC := .reg [⟨some 58, none, .mov (.t 0)⟩, ⟨some 59, none, .ixa 1 (.t 58) (.c (.int (.i64) 0))⟩, ⟨some 60, none, .ld false 1 (.t 59)⟩, ⟨some 61, none, .call (.c (.fn (.func 40) [] [])) [.t 8, .t 60]⟩] [58, 59, 60, 61]
@[simp] theorem strings_Join_c45_eq : aw PP strings_Join_c45 K env H = awOps PP [⟨some 58, none, .mov (.t 0)⟩, ⟨some 59, none, .ixa 1 (.t 58) (.c (.int (.i64) 0))⟩, ⟨some 60, none, .ld false 1 (.t 59)⟩, ⟨some 61, none, .call (.c (.fn (.func 40) [] [])) [.t 8, .t 60]⟩] (regK K [58, 59, 60, 61]) (panK K) env H := aw_reg _ _
def strings_Join_c46 : AC := .reg [⟨some 62, none, .mov (.t 0)⟩, ⟨some 63, none, .sll 1 (.t 62) (some (.c (.int (.i64) 1))) none⟩, ⟨some 64, none, .lenl (.t 63)⟩, ⟨some 65, none, .mov (.c (.int (.i64) 0))⟩] [0, 62]
@[simp] theorem strings_Join_c46_eq : aw PP strings_Join_c46 K env H = awOps PP [⟨some 62, none, .mov (.t 0)⟩, ⟨some 63, none, .sll 1 (.t 62) (some (.c (.int (.i64) 1))) none⟩, ⟨some 64, none, .lenl (.t 63)⟩, ⟨some 65, none, .mov (.c (.int (.i64) 0))⟩] (regK K [0, 62]) (panK K) env H := aw_reg _ _
def strings_Join_c47 : AC := .reg [⟨some 66, none, .bin (.lss) (.t 65) (.t 64)⟩] []
@[simp] theorem strings_Join_c47_eq : aw PP strings_Join_c47 K env H = awOps PP [⟨some 66, none, .bin (.lss) (.t 65) (.t 64)⟩] (regK K []) (panK K) env H := aw_reg _ _
def strings_Join_c48 : AC := .cond (.t 66) .skip (.exit 3)
@[simp] theorem strings_Join_c48_eq : aw PP strings_Join_c48 K env H = condQ PP (Opd.ev env (.t 66)) .skip (.exit 3) K env H := aw_cond _ .skip (.exit 3)
def strings_Join_c49 : AC := .reg [⟨some 67, none, .ixa 1 (.t 63) (.t 65)⟩, ⟨some 68, none, .ld false 1 (.t 67)⟩, ⟨some 10, none, .mov (.t 68)⟩] [66, 67, 68]
@[simp] theorem strings_Join_c49_eq : aw PP strings_Join_c49 K env H = awOps PP [⟨some 67, none, .ixa 1 (.t 63) (.t 65)⟩, ⟨some 68, none, .ld false 1 (.t 67)⟩, ⟨some 10, none, .mov (.t 68)⟩] (regK K [66, 67, 68]) (panK K) env H := aw_reg _ _
def strings_Join_c50 : AC := .reg [⟨some 69, none, .mov (.t 1)⟩, ⟨some 70, none, .call (.c (.fn (.func 40) [] [])) [.t 8, .t 69]⟩] [69, 70]
@[simp] theorem strings_Join_c50_eq : aw PP strings_Join_c50 K env H = awOps PP [⟨some 69, none, .mov (.t 1)⟩, ⟨some 70, none, .call (.c (.fn (.func 40) [] [])) [.t 8, .t 69]⟩] (regK K [69, 70]) (panK K) env H := aw_reg _ _
def strings_Join_c51 : AC := .reg [⟨some 71, none, .mov (.t 10)⟩, ⟨some 72, none, .call (.c (.fn (.func 40) [] [])) [.t 8, .t 71]⟩] [10, 71, 72]
@[simp] theorem strings_Join_c51_eq : aw PP strings_Join_c51 K env H = awOps PP [⟨some 71, none, .mov (.t 10)⟩, ⟨some 72, none, .call (.c (.fn (.func 40) [] [])) [.t 8, .t 71]⟩] (regK K [10, 71, 72]) (panK K) env H := aw_reg _ _
def strings_Join_c52 : AC := .seq strings_Join_c50 strings_Join_c51
@[simp] theorem strings_Join_c52_eq : aw PP strings_Join_c52 K env H = aw PP strings_Join_c50 (seqK PP strings_Join_c51 K) env H := aw_seq strings_Join_c50 strings_Join_c51
def strings_Join_c53 : AC := .seq strings_Join_c49 strings_Join_c52
@[simp] theorem strings_Join_c53_eq : aw PP strings_Join_c53 K env H = aw PP strings_Join_c49 (seqK PP strings_Join_c52 K) env H := aw_seq strings_Join_c49 strings_Join_c52
def strings_Join_c54 : AC := .block 4 strings_Join_c53
@[simp] theorem strings_Join_c54_eq : aw PP strings_Join_c54 K env H = aw PP strings_Join_c53 (blockK 4 K) env H := aw_block _ strings_Join_c53
def strings_Join_c55 : AC := .reg [⟨some 73, none, .bin (.add) (.t 65) (.c (.int (.i64) 1))⟩, ⟨some 65, none, .mov (.t 73)⟩] [73]
@[simp] theorem strings_Join_c55_eq : aw PP strings_Join_c55 K env H = awOps PP [⟨some 73, none, .bin (.add) (.t 65) (.c (.int (.i64) 1))⟩, ⟨some 65, none, .mov (.t 73)⟩] (regK K [73]) (panK K) env H := aw_reg _ _
def strings_Join_c56 : AC := .seq strings_Join_c54 strings_Join_c55
@[simp] theorem strings_Join_c56_eq : aw PP strings_Join_c56 K env H = aw PP strings_Join_c54 (seqK PP strings_Join_c55 K) env H := aw_seq strings_Join_c54 strings_Join_c55
def strings_Join_c57 : AC := .seq strings_Join_c48 strings_Join_c56
@[simp] theorem strings_Join_c57_eq : aw PP strings_Join_c57 K env H = aw PP strings_Join_c48 (seqK PP strings_Join_c56 K) env H := aw_seq strings_Join_c48 strings_Join_c56
def strings_Join_c58 : AC := .seq strings_Join_c47 strings_Join_c57
@[simp] theorem strings_Join_c58_eq : aw PP strings_Join_c58 K env H = aw PP strings_Join_c47 (seqK PP strings_Join_c57 K) env H := aw_seq strings_Join_c47 strings_Join_c57
def strings_Join_c59 : AC := .loop strings_Join_c58
def strings_Join_c60 : AC := .block 3 strings_Join_c59
@[simp] theorem strings_Join_c60_eq : aw PP strings_Join_c60 K env H = aw PP strings_Join_c59 (blockK 3 K) env H := aw_block _ strings_Join_c59
def strings_Join_c61 : AC := .seq strings_Join_c46 strings_Join_c60
@[simp] theorem strings_Join_c61_eq : aw PP strings_Join_c61 K env H = aw PP strings_Join_c46 (seqK PP strings_Join_c60 K) env H := aw_seq strings_Join_c46 strings_Join_c60
def strings_Join_c62 : AC := .reg [⟨some 74, none, .call (.c (.fn (.func 44) [] [])) [.t 8]⟩, ⟨some 4, none, .mov (.t 74)⟩] [1, 8, 63, 64, 65, 66, 74]
@[simp] theorem strings_Join_c62_eq : aw PP strings_Join_c62 K env H = awOps PP [⟨some 74, none, .call (.c (.fn (.func 44) [] [])) [.t 8]⟩, ⟨some 4, none, .mov (.t 74)⟩] (regK K [1, 8, 63, 64, 65, 66, 74]) (panK K) env H := aw_reg _ _
def strings_Join_c63 : AC := .seq strings_Join_c62 .ret
@[simp] theorem strings_Join_c63_eq : aw PP strings_Join_c63 K env H = aw PP strings_Join_c62 (seqK PP .ret K) env H := aw_seq strings_Join_c62 .ret
def strings_Join_c64 : AC := .seq strings_Join_c61 strings_Join_c63
@[simp] theorem strings_Join_c64_eq : aw PP strings_Join_c64 K env H = aw PP strings_Join_c61 (seqK PP strings_Join_c63 K) env H := aw_seq strings_Join_c61 strings_Join_c63
def strings_Join_c65 : AC := .seq strings_Join_c45 strings_Join_c64
@[simp] theorem strings_Join_c65_eq : aw PP strings_Join_c65 K env H = aw PP strings_Join_c45 (seqK PP strings_Join_c64 K) env H := aw_seq strings_Join_c45 strings_Join_c64
def strings_Join_c66 : AC := .seq strings_Join_c44 strings_Join_c65
@[simp] theorem strings_Join_c66_eq : aw PP strings_Join_c66 K env H = aw PP strings_Join_c44 (seqK PP strings_Join_c65 K) env H := aw_seq strings_Join_c44 strings_Join_c65
def strings_Join_c67 : AC := .seq strings_Join_c43 strings_Join_c66
@[simp] theorem strings_Join_c67_eq : aw PP strings_Join_c67 K env H = aw PP strings_Join_c43 (seqK PP strings_Join_c66 K) env H := aw_seq strings_Join_c43 strings_Join_c66
def strings_Join_c68 : AC := .seq strings_Join_c42 strings_Join_c67
@[simp] theorem strings_Join_c68_eq : aw PP strings_Join_c68 K env H = aw PP strings_Join_c42 (seqK PP strings_Join_c67 K) env H := aw_seq strings_Join_c42 strings_Join_c67
def strings_Join_c69 : AC := .seq strings_Join_c23 strings_Join_c68
@[simp] theorem strings_Join_c69_eq : aw PP strings_Join_c69 K env H = aw PP strings_Join_c23 (seqK PP strings_Join_c68 K) env H := aw_seq strings_Join_c23 strings_Join_c68
def strings_Join_c70 : AC := .seq strings_Join_c14 strings_Join_c69
@[simp] theorem strings_Join_c70_eq : aw PP strings_Join_c70 K env H = aw PP strings_Join_c14 (seqK PP strings_Join_c69 K) env H := aw_seq strings_Join_c14 strings_Join_c69
def strings_Join_c71 : AC := .seq strings_Join_c13 strings_Join_c70
@[simp] theorem strings_Join_c71_eq : aw PP strings_Join_c71 K env H = aw PP strings_Join_c13 (seqK PP strings_Join_c70 K) env H := aw_seq strings_Join_c13 strings_Join_c70
def strings_Join_c72 : AC := .seq strings_Join_c0 strings_Join_c71
@[simp] theorem strings_Join_c72_eq : aw PP strings_Join_c72 K env H = aw PP strings_Join_c0 (seqK PP strings_Join_c71 K) env H := aw_seq strings_Join_c0 strings_Join_c71
def strings_Join_ac : AC := strings_Join_c72
@[simp] theorem strings_Join_ac_eq : aw PP strings_Join_ac K env H = aw PP strings_Join_c72 K env H := Eq.trans rfl rfl
def strings_Join_rs : List ARV := [.tmp 4]
abbrev strings_Join_id : Nat := 42
theorem strings_Join_comp : compF PP strings_Join_kl strings_Join_ow 2 Tryd.f42 = some (strings_Join_ac, strings_Join_rs) := by kernel_rfl
theorem strings_Join_enter {args : List AV} {H : AHeap} {post : ARes → AHeap → Prop} (ha : args.length = 2) (h : aw PP strings_Join_ac (retK strings_Join_rs post) (argEnv 0 args) H) : ACalls PP strings_Join_id args H post := .enterF Tryd.func42 PP_mix strings_Join_comp ha h

/-! (*emendate.grammarfile.writer).alternative -/
def gW_al_kl : Nat → List Nat
  | 0 => [1]
  | 1 => [4, 5, 6, 7, 8, 9, 10, 11, 12, 13]
  | 2 => [14, 15, 16, 17, 18]
  | 3 => [19, 20, 21, 22, 23, 24, 25, 26]
  | 4 => [14, 27, 28]
  | 5 => [0, 3, 29, 30, 31, 32, 33, 34, 35, 36, 37]
  | _ => []
def gW_al_ow : Nat → Nat → Bool := fun _ _ => false
def gW_al_c0 : AC := .reg [⟨some 3, none, .box (.t 1) 4 38⟩] [1]
@[simp] theorem gW_al_c0_eq : aw PP gW_al_c0 K env H = awOps PP [⟨some 3, none, .box (.t 1) 4 38⟩] (regK K [1]) (panK K) env H := aw_reg _ _
def gW_al_c1 : AC := .reg [⟨some 4, none, .fa 0 0 (.t 3)⟩, ⟨some 5, none, .fa 0 0 (.t 4)⟩, ⟨some 6, none, .ld false 1 (.t 5)⟩, ⟨some 7, none, .bin (.neq) (.t 6) (.c (.int (.i64) 2))⟩, ⟨some 8, none, .mov (.t 7)⟩, ⟨some 9, some (8, false), .fa 0 0 (.t 3)⟩, ⟨some 10, some (8, false), .fa 2 2 (.t 9)⟩, ⟨some 11, some (8, false), .ld false 1 (.t 10)⟩, ⟨some 12, some (8, false), .lenl (.t 11)⟩, ⟨some 13, some (8, false), .bin (.gtr) (.t 12) (.c (.int (.i64) 0))⟩, ⟨some 14, none, .pick (.t 8) (.c (.bool true)) (.t 13)⟩] [4, 5, 6, 7, 8, 9, 10, 11, 12, 13]
@[simp] theorem gW_al_c1_eq : aw PP gW_al_c1 K env H = awOps PP [⟨some 4, none, .fa 0 0 (.t 3)⟩, ⟨some 5, none, .fa 0 0 (.t 4)⟩, ⟨some 6, none, .ld false 1 (.t 5)⟩, ⟨some 7, none, .bin (.neq) (.t 6) (.c (.int (.i64) 2))⟩, ⟨some 8, none, .mov (.t 7)⟩, ⟨some 9, some (8, false), .fa 0 0 (.t 3)⟩, ⟨some 10, some (8, false), .fa 2 2 (.t 9)⟩, ⟨some 11, some (8, false), .ld false 1 (.t 10)⟩, ⟨some 12, some (8, false), .lenl (.t 11)⟩, ⟨some 13, some (8, false), .bin (.gtr) (.t 12) (.c (.int (.i64) 0))⟩, ⟨some 14, none, .pick (.t 8) (.c (.bool true)) (.t 13)⟩] (regK K [4, 5, 6, 7, 8, 9, 10, 11, 12, 13]) (panK K) env H := aw_reg _ _
def gW_al_c2 : AC := .reg [⟨some 15, none, .mov (.t 0)⟩, ⟨some 16, none, .nilc (.t 15)⟩, ⟨some 17, none, .fa 0 0 (.t 16)⟩, ⟨some 18, none, .call (.c (.fn (.func 61) [] [])) [.t 17, .c (.int (.u8) 32)]⟩] [14, 15, 16, 17, 18]
@[simp] theorem gW_al_c2_eq : aw PP gW_al_c2 K env H = awOps PP [⟨some 15, none, .mov (.t 0)⟩, ⟨some 16, none, .nilc (.t 15)⟩, ⟨some 17, none, .fa 0 0 (.t 16)⟩, ⟨some 18, none, .call (.c (.fn (.func 61) [] [])) [.t 17, .c (.int (.u8) 32)]⟩] (regK K [14, 15, 16, 17, 18]) (panK K) env H := aw_reg _ _
def gW_al_c3 : AC := .reg [⟨some 19, none, .mov (.t 0)⟩, ⟨some 20, none, .fa 0 0 (.t 3)⟩, ⟨some 21, none, .ld true 3 (.t 20)⟩, ⟨some 22, none, .fa 0 0 (.t 3)⟩, ⟨some 23, none, .fa 0 0 (.t 22)⟩, ⟨some 24, none, .ld false 1 (.t 23)⟩, ⟨some 25, none, .bin (.eql) (.t 24) (.c (.int (.i64) 3))⟩, ⟨some 26, none, .call (.c (.fn (.func 62) [] [])) [.t 19, .t 21, .t 25]⟩] [19, 20, 21, 22, 23, 24, 25, 26]
@[simp] theorem gW_al_c3_eq : aw PP gW_al_c3 K env H = awOps PP [⟨some 19, none, .mov (.t 0)⟩, ⟨some 20, none, .fa 0 0 (.t 3)⟩, ⟨some 21, none, .ld true 3 (.t 20)⟩, ⟨some 22, none, .fa 0 0 (.t 3)⟩, ⟨some 23, none, .fa 0 0 (.t 22)⟩, ⟨some 24, none, .ld false 1 (.t 23)⟩, ⟨some 25, none, .bin (.eql) (.t 24) (.c (.int (.i64) 3))⟩, ⟨some 26, none, .call (.c (.fn (.func 62) [] [])) [.t 19, .t 21, .t 25]⟩] (regK K [19, 20, 21, 22, 23, 24, 25, 26]) (panK K) env H := aw_reg _ _
def gW_al_c4 : AC := .seq gW_al_c2 gW_al_c3
@[simp] theorem gW_al_c4_eq : aw PP gW_al_c4 K env H = aw PP gW_al_c2 (seqK PP gW_al_c3 K) env H := aw_seq gW_al_c2 gW_al_c3
def gW_al_c5 : AC := .cond (.t 14) gW_al_c4 .skip
@[simp] theorem gW_al_c5_eq : aw PP gW_al_c5 K env H = condQ PP (Opd.ev env (.t 14)) gW_al_c4 .skip K env H := aw_cond _ gW_al_c4 .skip
def gW_al_c6 : AC := .seq gW_al_c1 gW_al_c5
@[simp] theorem gW_al_c6_eq : aw PP gW_al_c6 K env H = aw PP gW_al_c1 (seqK PP gW_al_c5 K) env H := aw_seq gW_al_c1 gW_al_c5
def gW_al_c7 : AC := .reg [⟨some 27, none, .fa 1 3 (.t 3)⟩, ⟨some 28, none, .ld false 1 (.t 27)⟩, ⟨some 29, none, .bin (.neq) (.t 28) (.c (.int (.i64) 0))⟩] [14, 27, 28]
@[simp] theorem gW_al_c7_eq : aw PP gW_al_c7 K env H = awOps PP [⟨some 27, none, .fa 1 3 (.t 3)⟩, ⟨some 28, none, .ld false 1 (.t 27)⟩, ⟨some 29, none, .bin (.neq) (.t 28) (.c (.int (.i64) 0))⟩] (regK K [14, 27, 28]) (panK K) env H := aw_reg _ _
def gW_al_c8_ops : List (AI × List Nat) := [(⟨some 30, none, .mov (.t 0)⟩, []), (⟨some 31, none, .nilc (.t 30)⟩, [0]), (⟨some 32, none, .fa 0 0 (.t 31)⟩, [1]), (⟨some 33, none, .fa 1 3 (.t 3)⟩, []), (⟨some 34, none, .ld false 1 (.t 33)⟩, [3]), (⟨some 35, none, .call (.c (.fn (.func 63) [] [])) [.t 34]⟩, [4]), (⟨some 36, none, .bin (.add) (.c (.str [32, 112, 114, 105, 99, 101, 32])) (.t 35)⟩, [5]), (⟨some 37, none, .call (.c (.fn (.func 40) [] [])) [.t 32, .t 36]⟩, [2, 6, 5])]
def gW_al_c8 : AC := .dreg gW_al_c8_ops [0, 3, 29, 30, 31, 32, 33, 34, 35, 36, 37]
theorem gW_al_c8_ok : lexOK gW_al_c8_ops (fun i => [].contains i) = true := by kernel_rfl
theorem gW_al_c8_lex (h : awLex PP (fun i => [].contains i) (regK K [0, 3, 29, 30, 31, 32, 33, 34, 35, 36, 37]) (panK K) [(0, ⟨some 30, none, .mov (.t 0)⟩), (1, ⟨some 31, none, .nilc (.t 30)⟩), (2, ⟨some 32, none, .fa 0 0 (.t 31)⟩), (3, ⟨some 33, none, .fa 1 3 (.t 3)⟩), (4, ⟨some 34, none, .ld false 1 (.t 33)⟩), (5, ⟨some 35, none, .call (.c (.fn (.func 63) [] [])) [.t 34]⟩), (6, ⟨some 36, none, .bin (.add) (.c (.str [32, 112, 114, 105, 99, 101, 32])) (.t 35)⟩), (7, ⟨some 37, none, .call (.c (.fn (.func 40) [] [])) [.t 32, .t 36]⟩)] env H) : aw PP gW_al_c8 K env H := aw_dreg_lex _ gW_al_c8_ok h
theorem gW_al_c8_okF : lexOKF gW_al_c8_ops 7 (fun i => [5, 7].contains i) = true := by kernel_rfl
theorem gW_al_c8_lexF (B : List Nat) (h : awLexF PP 7 (fun i => [5, 7].contains i) B H (regK K [0, 3, 29, 30, 31, 32, 33, 34, 35, 36, 37]) (panK K) [(0, ⟨some 30, none, .mov (.t 0)⟩), (1, ⟨some 31, none, .nilc (.t 30)⟩), (2, ⟨some 32, none, .fa 0 0 (.t 31)⟩), (3, ⟨some 33, none, .fa 1 3 (.t 3)⟩), (4, ⟨some 34, none, .ld false 1 (.t 33)⟩), (5, ⟨some 35, none, .call (.c (.fn (.func 63) [] [])) [.t 34]⟩), (6, ⟨some 36, none, .bin (.add) (.c (.str [32, 112, 114, 105, 99, 101, 32])) (.t 35)⟩), (7, ⟨some 37, none, .call (.c (.fn (.func 40) [] [])) [.t 32, .t 36]⟩)] env H) : aw PP gW_al_c8 K env H := aw_dreg_lexF _ _ B gW_al_c8_okF h
def gW_al_c9 : AC := .cond (.t 29) gW_al_c8 .skip
@[simp] theorem gW_al_c9_eq : aw PP gW_al_c9 K env H = condQ PP (Opd.ev env (.t 29)) gW_al_c8 .skip K env H := aw_cond _ gW_al_c8 .skip
def gW_al_c10 : AC := .seq gW_al_c7 gW_al_c9
@[simp] theorem gW_al_c10_eq : aw PP gW_al_c10 K env H = aw PP gW_al_c7 (seqK PP gW_al_c9 K) env H := aw_seq gW_al_c7 gW_al_c9
def gW_al_c11 : AC := .seq gW_al_c6 gW_al_c10
@[simp] theorem gW_al_c11_eq : aw PP gW_al_c11 K env H = aw PP gW_al_c6 (seqK PP gW_al_c10 K) env H := aw_seq gW_al_c6 gW_al_c10
def gW_al_c12 : AC := .seq gW_al_c0 gW_al_c11
@[simp] theorem gW_al_c12_eq : aw PP gW_al_c12 K env H = aw PP gW_al_c0 (seqK PP gW_al_c11 K) env H := aw_seq gW_al_c0 gW_al_c11
def gW_al_ac : AC := gW_al_c12
@[simp] theorem gW_al_ac_eq : aw PP gW_al_ac K env H = aw PP gW_al_c12 K env H := Eq.trans rfl rfl
def gW_al_rs : List ARV := []
abbrev gW_al_id : Nat := 43
theorem gW_al_comp : compF PP gW_al_kl gW_al_ow 2 Tryd.f43 = some (gW_al_ac, gW_al_rs) := by kernel_rfl
theorem gW_al_enter {args : List AV} {H : AHeap} {post : ARes → AHeap → Prop} (ha : args.length = 2) (h : aw PP gW_al_ac (retK gW_al_rs post) (argEnv 0 args) H) : ACalls PP gW_al_id args H post := .enterF Tryd.func43 PP_mix gW_al_comp ha h

-- taken in parts: (*strings.Builder).String
def sB_String_kl : Nat → List Nat
  | 0 => [2]
  | 1 => [0, 3, 4, 5, 6, 7, 8, 9, 10, 11, 12, 13]
  | _ => []
def sB_String_ow : Nat → Nat → Bool := fun _ _ => false
abbrev sB_String_id : Nat := 44
def sB_String_c0 : AC := .reg [⟨some 2, none, .mov (.c (.str []))⟩] [2]
@[simp] theorem sB_String_c0_eq : aw PP sB_String_c0 K env H = awOps PP [⟨some 2, none, .mov (.c (.str []))⟩] (regK K [2]) (panK K) env H := aw_reg _ _
def sB_String_p0_ac : AC := sB_String_c0
@[simp] theorem sB_String_p0_ac_eq : aw PP sB_String_p0_ac K env H = aw PP sB_String_c0 K env H := Eq.trans rfl rfl
theorem sB_String_p0_comp : comp PP sB_String_kl sB_String_ow 14 (codeAt (bodyOf Tryd.f44) [0]) = some sB_String_p0_ac := by kernel_rfl
def sB_String_p1_ac : AC := .ret
@[simp] theorem sB_String_p1_ac_eq : aw PP sB_String_p1_ac K env H = aw PP .ret K env H := Eq.trans rfl rfl
theorem sB_String_p1_comp : comp PP sB_String_kl sB_String_ow 14 (codeAt (bodyOf Tryd.f44) [1, 1]) = some sB_String_p1_ac := by kernel_rfl
def sB_String_rs : List ARV := [.tmp 2]
theorem sB_String_rsc : compRes PP Tryd.f44.results.toList = some sB_String_rs := by kernel_rfl

/-! emendate.emendateref16.nodes -/
def r6_nodes_kl : Nat → List Nat
  | 0 => [0, 4]
  | 3 => [7, 8, 9, 10, 11, 12, 13, 14, 15]
  | 4 => [17, 18]
  | 5 => [16, 19, 20, 21, 22, 23, 24, 25, 26, 27, 28, 29]
  | 6 => [1, 2, 5, 6, 16, 30]
  | _ => []
def r6_nodes_ow : Nat → Nat → Bool := fun _ _ => false
def r6_nodes_c0 : AC := .reg [⟨some 2, none, .box (.t 0) 3 33⟩, ⟨some 4, none, .mov (.c (.int (.i64) 0))⟩] [0, 4]
@[simp] theorem r6_nodes_c0_eq : aw PP r6_nodes_c0 K env H = awOps PP [⟨some 2, none, .box (.t 0) 3 33⟩, ⟨some 4, none, .mov (.c (.int (.i64) 0))⟩] (regK K [0, 4]) (panK K) env H := aw_reg _ _
def r6_nodes_c1 : AC := .reg [⟨some 5, none, .mov (.c (.int (.i64) 1))⟩] []
@[simp] theorem r6_nodes_c1_eq : aw PP r6_nodes_c1 K env H = awOps PP [⟨some 5, none, .mov (.c (.int (.i64) 1))⟩] (regK K []) (panK K) env H := aw_reg _ _
def r6_nodes_c2 : AC := .reg [⟨some 6, none, .mov (.c (.int (.i64) 0))⟩] []
@[simp] theorem r6_nodes_c2_eq : aw PP r6_nodes_c2 K env H = awOps PP [⟨some 6, none, .mov (.c (.int (.i64) 0))⟩] (regK K []) (panK K) env H := aw_reg _ _
def r6_nodes_c3 : AC := .reg [⟨some 7, none, .mov (.t 6)⟩, ⟨some 8, none, .fa 2 2 (.t 2)⟩, ⟨some 9, none, .ld false 1 (.t 8)⟩, ⟨some 10, none, .lenl (.t 9)⟩, ⟨some 11, none, .bin (.lss) (.t 7) (.t 10)⟩, ⟨some 12, none, .mov (.t 11)⟩, ⟨some 13, some (12, true), .mov (.t 5)⟩, ⟨some 14, some (12, true), .mov (.t 1)⟩, ⟨some 15, some (12, true), .bin (.leq) (.t 13) (.t 14)⟩, ⟨some 16, none, .pick (.t 12) (.t 15) (.c (.bool false))⟩] [7, 8, 9, 10, 11, 12, 13, 14, 15]
@[simp] theorem r6_nodes_c3_eq : aw PP r6_nodes_c3 K env H = awOps PP [⟨some 7, none, .mov (.t 6)⟩, ⟨some 8, none, .fa 2 2 (.t 2)⟩, ⟨some 9, none, .ld false 1 (.t 8)⟩, ⟨some 10, none, .lenl (.t 9)⟩, ⟨some 11, none, .bin (.lss) (.t 7) (.t 10)⟩, ⟨some 12, none, .mov (.t 11)⟩, ⟨some 13, some (12, true), .mov (.t 5)⟩, ⟨some 14, some (12, true), .mov (.t 1)⟩, ⟨some 15, some (12, true), .bin (.leq) (.t 13) (.t 14)⟩, ⟨some 16, none, .pick (.t 12) (.t 15) (.c (.bool false))⟩] (regK K [7, 8, 9, 10, 11, 12, 13, 14, 15]) (panK K) env H := aw_reg _ _
def r6_nodes_c4 : AC := .cond (.t 16) .skip (.exit 0)
@[simp] theorem r6_nodes_c4_eq : aw PP r6_nodes_c4 K env H = condQ PP (Opd.ev env (.t 16)) .skip (.exit 0) K env H := aw_cond _ .skip (.exit 0)
def r6_nodes_c5 : AC := .seq r6_nodes_c3 r6_nodes_c4
@[simp] theorem r6_nodes_c5_eq : aw PP r6_nodes_c5 K env H = aw PP r6_nodes_c3 (seqK PP r6_nodes_c4 K) env H := aw_seq r6_nodes_c3 r6_nodes_c4
def r6_nodes_c6 : AC := .reg [⟨some 19, none, .mov (.t 5)⟩, ⟨some 20, none, .fa 2 2 (.t 2)⟩, ⟨some 21, none, .ld false 1 (.t 20)⟩, ⟨some 22, none, .mov (.t 6)⟩, ⟨some 23, none, .ixa 3 (.t 21) (.t 22)⟩, ⟨some 24, none, .ld true 3 (.t 23)⟩, ⟨some 25, none, .mov (.t 1)⟩, ⟨some 26, none, .mov (.t 5)⟩, ⟨some 27, none, .bin (.sub) (.t 25) (.t 26)⟩, ⟨some 28, none, .call (.c (.fn (.func 46) [] [])) [.t 24, .t 27]⟩, ⟨some 29, none, .bin (.add) (.t 19) (.t 28)⟩, ⟨some 5, none, .mov (.t 29)⟩] [16, 19, 20, 21, 22, 23, 24, 25, 26, 27, 28, 29]
@[simp] theorem r6_nodes_c6_eq : aw PP r6_nodes_c6 K env H = awOps PP [⟨some 19, none, .mov (.t 5)⟩, ⟨some 20, none, .fa 2 2 (.t 2)⟩, ⟨some 21, none, .ld false 1 (.t 20)⟩, ⟨some 22, none, .mov (.t 6)⟩, ⟨some 23, none, .ixa 3 (.t 21) (.t 22)⟩, ⟨some 24, none, .ld true 3 (.t 23)⟩, ⟨some 25, none, .mov (.t 1)⟩, ⟨some 26, none, .mov (.t 5)⟩, ⟨some 27, none, .bin (.sub) (.t 25) (.t 26)⟩, ⟨some 28, none, .call (.c (.fn (.func 46) [] [])) [.t 24, .t 27]⟩, ⟨some 29, none, .bin (.add) (.t 19) (.t 28)⟩, ⟨some 5, none, .mov (.t 29)⟩] (regK K [16, 19, 20, 21, 22, 23, 24, 25, 26, 27, 28, 29]) (panK K) env H := aw_reg _ _
def r6_nodes_c7 : AC := .block 1 r6_nodes_c6
@[simp] theorem r6_nodes_c7_eq : aw PP r6_nodes_c7 K env H = aw PP r6_nodes_c6 (blockK 1 K) env H := aw_block _ r6_nodes_c6
def r6_nodes_c8 : AC := .reg [⟨some 17, none, .mov (.t 6)⟩, ⟨some 18, none, .bin (.add) (.t 17) (.c (.int (.i64) 1))⟩, ⟨some 6, none, .mov (.t 18)⟩] [17, 18]
@[simp] theorem r6_nodes_c8_eq : aw PP r6_nodes_c8 K env H = awOps PP [⟨some 17, none, .mov (.t 6)⟩, ⟨some 18, none, .bin (.add) (.t 17) (.c (.int (.i64) 1))⟩, ⟨some 6, none, .mov (.t 18)⟩] (regK K [17, 18]) (panK K) env H := aw_reg _ _
def r6_nodes_c9 : AC := .seq r6_nodes_c7 r6_nodes_c8
@[simp] theorem r6_nodes_c9_eq : aw PP r6_nodes_c9 K env H = aw PP r6_nodes_c7 (seqK PP r6_nodes_c8 K) env H := aw_seq r6_nodes_c7 r6_nodes_c8
def r6_nodes_c10 : AC := .seq r6_nodes_c5 r6_nodes_c9
@[simp] theorem r6_nodes_c10_eq : aw PP r6_nodes_c10 K env H = aw PP r6_nodes_c5 (seqK PP r6_nodes_c9 K) env H := aw_seq r6_nodes_c5 r6_nodes_c9
def r6_nodes_c11 : AC := .loop r6_nodes_c10
def r6_nodes_c12 : AC := .block 0 r6_nodes_c11
@[simp] theorem r6_nodes_c12_eq : aw PP r6_nodes_c12 K env H = aw PP r6_nodes_c11 (blockK 0 K) env H := aw_block _ r6_nodes_c11
def r6_nodes_c13 : AC := .seq r6_nodes_c2 r6_nodes_c12
@[simp] theorem r6_nodes_c13_eq : aw PP r6_nodes_c13 K env H = aw PP r6_nodes_c2 (seqK PP r6_nodes_c12 K) env H := aw_seq r6_nodes_c2 r6_nodes_c12
def r6_nodes_c14 : AC := .reg [⟨some 30, none, .mov (.t 5)⟩, ⟨some 4, none, .mov (.t 30)⟩] [1, 2, 5, 6, 16, 30]
@[simp] theorem r6_nodes_c14_eq : aw PP r6_nodes_c14 K env H = awOps PP [⟨some 30, none, .mov (.t 5)⟩, ⟨some 4, none, .mov (.t 30)⟩] (regK K [1, 2, 5, 6, 16, 30]) (panK K) env H := aw_reg _ _
def r6_nodes_c15 : AC := .seq r6_nodes_c14 .ret
@[simp] theorem r6_nodes_c15_eq : aw PP r6_nodes_c15 K env H = aw PP r6_nodes_c14 (seqK PP .ret K) env H := aw_seq r6_nodes_c14 .ret
def r6_nodes_c16 : AC := .seq r6_nodes_c13 r6_nodes_c15
@[simp] theorem r6_nodes_c16_eq : aw PP r6_nodes_c16 K env H = aw PP r6_nodes_c13 (seqK PP r6_nodes_c15 K) env H := aw_seq r6_nodes_c13 r6_nodes_c15
def r6_nodes_c17 : AC := .seq r6_nodes_c1 r6_nodes_c16
@[simp] theorem r6_nodes_c17_eq : aw PP r6_nodes_c17 K env H = aw PP r6_nodes_c1 (seqK PP r6_nodes_c16 K) env H := aw_seq r6_nodes_c1 r6_nodes_c16
def r6_nodes_c18 : AC := .seq r6_nodes_c0 r6_nodes_c17
@[simp] theorem r6_nodes_c18_eq : aw PP r6_nodes_c18 K env H = aw PP r6_nodes_c0 (seqK PP r6_nodes_c17 K) env H := aw_seq r6_nodes_c0 r6_nodes_c17
def r6_nodes_ac : AC := r6_nodes_c18
@[simp] theorem r6_nodes_ac_eq : aw PP r6_nodes_ac K env H = aw PP r6_nodes_c18 K env H := Eq.trans rfl rfl
def r6_nodes_rs : List ARV := [.tmp 4]
abbrev r6_nodes_id : Nat := 46
theorem r6_nodes_comp : compF PP r6_nodes_kl r6_nodes_ow 2 Tryd.f46 = some (r6_nodes_ac, r6_nodes_rs) := by kernel_rfl
theorem r6_nodes_enter {args : List AV} {H : AHeap} {post : ARes → AHeap → Prop} (ha : args.length = 2) (h : aw PP r6_nodes_ac (retK r6_nodes_rs post) (argEnv 0 args) H) : ACalls PP r6_nodes_id args H post := .enterF Tryd.func46 PP_mix r6_nodes_comp ha h

end Go.Av
