/- Functions of the given program, compiled to the own form by program. -/
import Derived.Test.YtondhmpdmbjmdaaDoorProg
import Derived.KernelRfl
import Derived.Test.YtondhmpdmbjmdaaDoorAvF
import Derived.Test.YtondhmpdmbjmdaaDoorFns30
set_option linter.unusedVariables false
set_option linter.unusedSimpArgs false
namespace Go.Av
open Go Go.Proofs
variable {K : AK} {env : Env} {H : AHeap}
/-! (*strings.Builder).WriteByte -/
def sB_WriteByte_kl : Nat → List Nat
  | 0 => [4]
  | 1 => [5, 6]
  | 2 => [0, 1, 7, 8, 9, 10, 11, 12, 13, 14, 15, 16]
  | _ => []
def sB_WriteByte_ow : Nat → Nat → Bool := fun _ _ => false
def sB_WriteByte_c0 : AC := .reg [⟨some 4, none, .mov (.c (.nili))⟩] [4]
@[simp] theorem sB_WriteByte_c0_eq : aw PP sB_WriteByte_c0 K env H = awOps PP [⟨some 4, none, .mov (.c (.nili))⟩] (regK K [4]) (panK K) env H := aw_reg _ _
def sB_WriteByte_c1 : AC := .reg [⟨some 5, none, .mov (.t 0)⟩, ⟨some 6, none, .call (.c (.fn (.func 59) [] [])) [.t 5]⟩] [5, 6]
@[simp] theorem sB_WriteByte_c1_eq : aw PP sB_WriteByte_c1 K env H = awOps PP [⟨some 5, none, .mov (.t 0)⟩, ⟨some 6, none, .call (.c (.fn (.func 59) [] [])) [.t 5]⟩] (regK K [5, 6]) (panK K) env H := aw_reg _ _
def sB_WriteByte_c2 : AC := .reg [⟨some 7, none, .mov (.t 0)⟩, ⟨some 8, none, .mov (.t 0)⟩, ⟨some 9, none, .nilc (.t 8)⟩, ⟨some 10, none, .fa 1 1 (.t 9)⟩, ⟨some 11, none, .ld false 1 (.t 10)⟩, ⟨some 12, none, .mov (.t 1)⟩, ⟨some 13, none, .bsl false 5 1 1 (.int (.u8) 0) [(0, .t 12)]⟩, ⟨some 14, none, .app 5 1 1 (.t 11) (.t 13)⟩, ⟨some 15, none, .nilc (.t 7)⟩, ⟨some 16, none, .fa 1 1 (.t 15)⟩, ⟨none, none, .st 1 (.t 16) (.t 14)⟩] [0, 1, 7, 8, 9, 10, 11, 12, 13, 14, 15, 16]
@[simp] theorem sB_WriteByte_c2_eq : aw PP sB_WriteByte_c2 K env H = awOps PP [⟨some 7, none, .mov (.t 0)⟩, ⟨some 8, none, .mov (.t 0)⟩, ⟨some 9, none, .nilc (.t 8)⟩, ⟨some 10, none, .fa 1 1 (.t 9)⟩, ⟨some 11, none, .ld false 1 (.t 10)⟩, ⟨some 12, none, .mov (.t 1)⟩, ⟨some 13, none, .bsl false 5 1 1 (.int (.u8) 0) [(0, .t 12)]⟩, ⟨some 14, none, .app 5 1 1 (.t 11) (.t 13)⟩, ⟨some 15, none, .nilc (.t 7)⟩, ⟨some 16, none, .fa 1 1 (.t 15)⟩, ⟨none, none, .st 1 (.t 16) (.t 14)⟩] (regK K [0, 1, 7, 8, 9, 10, 11, 12, 13, 14, 15, 16]) (panK K) env H := aw_reg _ _
def sB_WriteByte_c3 : AC := .reg [⟨some 4, none, .mov (.c (.nili))⟩] []
@[simp] theorem sB_WriteByte_c3_eq : aw PP sB_WriteByte_c3 K env H = awOps PP [⟨some 4, none, .mov (.c (.nili))⟩] (regK K []) (panK K) env H := aw_reg _ _
def sB_WriteByte_c4 : AC := .seq sB_WriteByte_c3 .ret
@[simp] theorem sB_WriteByte_c4_eq : aw PP sB_WriteByte_c4 K env H = aw PP sB_WriteByte_c3 (seqK PP .ret K) env H := aw_seq sB_WriteByte_c3 .ret
def sB_WriteByte_c5 : AC := .seq sB_WriteByte_c2 sB_WriteByte_c4
@[simp] theorem sB_WriteByte_c5_eq : aw PP sB_WriteByte_c5 K env H = aw PP sB_WriteByte_c2 (seqK PP sB_WriteByte_c4 K) env H := aw_seq sB_WriteByte_c2 sB_WriteByte_c4
def sB_WriteByte_c6 : AC := .seq sB_WriteByte_c1 sB_WriteByte_c5
@[simp] theorem sB_WriteByte_c6_eq : aw PP sB_WriteByte_c6 K env H = aw PP sB_WriteByte_c1 (seqK PP sB_WriteByte_c5 K) env H := aw_seq sB_WriteByte_c1 sB_WriteByte_c5
def sB_WriteByte_c7 : AC := .seq sB_WriteByte_c0 sB_WriteByte_c6
@[simp] theorem sB_WriteByte_c7_eq : aw PP sB_WriteByte_c7 K env H = aw PP sB_WriteByte_c0 (seqK PP sB_WriteByte_c6 K) env H := aw_seq sB_WriteByte_c0 sB_WriteByte_c6
def sB_WriteByte_ac : AC := sB_WriteByte_c7
@[simp] theorem sB_WriteByte_ac_eq : aw PP sB_WriteByte_ac K env H = aw PP sB_WriteByte_c7 K env H := Eq.trans rfl rfl
def sB_WriteByte_rs : List ARV := [.tmp 4]
abbrev sB_WriteByte_id : Nat := 61
theorem sB_WriteByte_comp : compF PP sB_WriteByte_kl sB_WriteByte_ow 2 Tryd.f61 = some (sB_WriteByte_ac, sB_WriteByte_rs) := by kernel_rfl
theorem sB_WriteByte_enter {args : List AV} {H : AHeap} {post : ARes → AHeap → Prop} (ha : args.length = 2) (h : aw PP sB_WriteByte_ac (retK sB_WriteByte_rs post) (argEnv 0 args) H) : ACalls PP sB_WriteByte_id args H post := .enterF Tryd.func61 PP_mix sB_WriteByte_comp ha h

/-! (*emendate.grammarfile.writer).enclosed -/
def gW_enclosed_kl : Nat → List Nat
  | 0 => [1]
  | 1 => [2, 6]
  | 2 => [0, 4, 7, 8, 9, 10]
  | 3 => [7, 11, 12, 13, 14]
  | 4 => [4, 15, 16, 17]
  | 5 => [0, 18, 19, 20, 21]
  | _ => []
def gW_enclosed_ow : Nat → Nat → Bool := fun _ _ => false
def gW_enclosed_c0 : AC := .reg [⟨some 4, none, .box (.t 1) 3 33⟩] [1]
@[simp] theorem gW_enclosed_c0_eq : aw PP gW_enclosed_c0 K env H = awOps PP [⟨some 4, none, .box (.t 1) 3 33⟩] (regK K [1]) (panK K) env H := aw_reg _ _
def gW_enclosed_c1 : AC := .reg [⟨some 6, none, .mov (.t 2)⟩, ⟨some 7, none, .not (.t 6)⟩] [2, 6]
@[simp] theorem gW_enclosed_c1_eq : aw PP gW_enclosed_c1 K env H = awOps PP [⟨some 6, none, .mov (.t 2)⟩, ⟨some 7, none, .not (.t 6)⟩] (regK K [2, 6]) (panK K) env H := aw_reg _ _
def gW_enclosed_c2 : AC := .reg [⟨some 8, none, .mov (.t 0)⟩, ⟨some 9, none, .ld true 3 (.t 4)⟩, ⟨some 10, none, .call (.c (.fn (.func 84) [] [])) [.t 8, .t 9]⟩] [0, 4, 7, 8, 9, 10]
@[simp] theorem gW_enclosed_c2_eq : aw PP gW_enclosed_c2 K env H = awOps PP [⟨some 8, none, .mov (.t 0)⟩, ⟨some 9, none, .ld true 3 (.t 4)⟩, ⟨some 10, none, .call (.c (.fn (.func 84) [] [])) [.t 8, .t 9]⟩] (regK K [0, 4, 7, 8, 9, 10]) (panK K) env H := aw_reg _ _
def gW_enclosed_c3 : AC := .seq gW_enclosed_c2 .ret
@[simp] theorem gW_enclosed_c3_eq : aw PP gW_enclosed_c3 K env H = aw PP gW_enclosed_c2 (seqK PP .ret K) env H := aw_seq gW_enclosed_c2 .ret
def gW_enclosed_c4 : AC := .cond (.t 7) gW_enclosed_c3 .skip
@[simp] theorem gW_enclosed_c4_eq : aw PP gW_enclosed_c4 K env H = condQ PP (Opd.ev env (.t 7)) gW_enclosed_c3 .skip K env H := aw_cond _ gW_enclosed_c3 .skip
def gW_enclosed_c5 : AC := .seq gW_enclosed_c1 gW_enclosed_c4
@[simp] theorem gW_enclosed_c5_eq : aw PP gW_enclosed_c5 K env H = aw PP gW_enclosed_c1 (seqK PP gW_enclosed_c4 K) env H := aw_seq gW_enclosed_c1 gW_enclosed_c4
def gW_enclosed_c6 : AC := .reg [⟨some 11, none, .mov (.t 0)⟩, ⟨some 12, none, .nilc (.t 11)⟩, ⟨some 13, none, .fa 0 0 (.t 12)⟩, ⟨some 14, none, .call (.c (.fn (.func 61) [] [])) [.t 13, .c (.int (.u8) 40)]⟩] [7, 11, 12, 13, 14]
@[simp] theorem gW_enclosed_c6_eq : aw PP gW_enclosed_c6 K env H = awOps PP [⟨some 11, none, .mov (.t 0)⟩, ⟨some 12, none, .nilc (.t 11)⟩, ⟨some 13, none, .fa 0 0 (.t 12)⟩, ⟨some 14, none, .call (.c (.fn (.func 61) [] [])) [.t 13, .c (.int (.u8) 40)]⟩] (regK K [7, 11, 12, 13, 14]) (panK K) env H := aw_reg _ _
def gW_enclosed_c7 : AC := .reg [⟨some 15, none, .mov (.t 0)⟩, ⟨some 16, none, .ld true 3 (.t 4)⟩, ⟨some 17, none, .call (.c (.fn (.func 84) [] [])) [.t 15, .t 16]⟩] [4, 15, 16, 17]
@[simp] theorem gW_enclosed_c7_eq : aw PP gW_enclosed_c7 K env H = awOps PP [⟨some 15, none, .mov (.t 0)⟩, ⟨some 16, none, .ld true 3 (.t 4)⟩, ⟨some 17, none, .call (.c (.fn (.func 84) [] [])) [.t 15, .t 16]⟩] (regK K [4, 15, 16, 17]) (panK K) env H := aw_reg _ _
def gW_enclosed_c8 : AC := .reg [⟨some 18, none, .mov (.t 0)⟩, ⟨some 19, none, .nilc (.t 18)⟩, ⟨some 20, none, .fa 0 0 (.t 19)⟩, ⟨some 21, none, .call (.c (.fn (.func 61) [] [])) [.t 20, .c (.int (.u8) 41)]⟩] [0, 18, 19, 20, 21]
@[simp] theorem gW_enclosed_c8_eq : aw PP gW_enclosed_c8 K env H = awOps PP [⟨some 18, none, .mov (.t 0)⟩, ⟨some 19, none, .nilc (.t 18)⟩, ⟨some 20, none, .fa 0 0 (.t 19)⟩, ⟨some 21, none, .call (.c (.fn (.func 61) [] [])) [.t 20, .c (.int (.u8) 41)]⟩] (regK K [0, 18, 19, 20, 21]) (panK K) env H := aw_reg _ _
def gW_enclosed_c9 : AC := .seq gW_enclosed_c7 gW_enclosed_c8
@[simp] theorem gW_enclosed_c9_eq : aw PP gW_enclosed_c9 K env H = aw PP gW_enclosed_c7 (seqK PP gW_enclosed_c8 K) env H := aw_seq gW_enclosed_c7 gW_enclosed_c8
def gW_enclosed_c10 : AC := .seq gW_enclosed_c6 gW_enclosed_c9
@[simp] theorem gW_enclosed_c10_eq : aw PP gW_enclosed_c10 K env H = aw PP gW_enclosed_c6 (seqK PP gW_enclosed_c9 K) env H := aw_seq gW_enclosed_c6 gW_enclosed_c9
def gW_enclosed_c11 : AC := .seq gW_enclosed_c5 gW_enclosed_c10
@[simp] theorem gW_enclosed_c11_eq : aw PP gW_enclosed_c11 K env H = aw PP gW_enclosed_c5 (seqK PP gW_enclosed_c10 K) env H := aw_seq gW_enclosed_c5 gW_enclosed_c10
def gW_enclosed_c12 : AC := .seq gW_enclosed_c0 gW_enclosed_c11
@[simp] theorem gW_enclosed_c12_eq : aw PP gW_enclosed_c12 K env H = aw PP gW_enclosed_c0 (seqK PP gW_enclosed_c11 K) env H := aw_seq gW_enclosed_c0 gW_enclosed_c11
def gW_enclosed_ac : AC := gW_enclosed_c12
@[simp] theorem gW_enclosed_ac_eq : aw PP gW_enclosed_ac K env H = aw PP gW_enclosed_c12 K env H := Eq.trans rfl rfl
def gW_enclosed_rs : List ARV := []
abbrev gW_enclosed_id : Nat := 62
theorem gW_enclosed_comp : compF PP gW_enclosed_kl gW_enclosed_ow 3 Tryd.f62 = some (gW_enclosed_ac, gW_enclosed_rs) := by kernel_rfl
theorem gW_enclosed_enter {args : List AV} {H : AHeap} {post : ARes → AHeap → Prop} (ha : args.length = 3) (h : aw PP gW_enclosed_ac (retK gW_enclosed_rs post) (argEnv 0 args) H) : ACalls PP gW_enclosed_id args H post := .enterF Tryd.func62 PP_mix gW_enclosed_comp ha h

/-! strconv.Itoa -/
def strconv_Itoa_kl : Nat → List Nat
  | 0 => [2]
  | 1 => [0, 3, 4]
  | _ => []
def strconv_Itoa_ow : Nat → Nat → Bool := fun _ _ => false
def strconv_Itoa_c0 : AC := .reg [⟨some 2, none, .mov (.c (.str []))⟩] [2]
@[simp] theorem strconv_Itoa_c0_eq : aw PP strconv_Itoa_c0 K env H = awOps PP [⟨some 2, none, .mov (.c (.str []))⟩] (regK K [2]) (panK K) env H := aw_reg _ _
def strconv_Itoa_c1 : AC := .reg [⟨some 3, none, .mov (.t 0)⟩, ⟨some 4, none, .call (.c (.fn (.func 85) [] [])) [.t 3]⟩, ⟨some 2, none, .mov (.t 4)⟩] [0, 3, 4]
@[simp] theorem strconv_Itoa_c1_eq : aw PP strconv_Itoa_c1 K env H = awOps PP [⟨some 3, none, .mov (.t 0)⟩, ⟨some 4, none, .call (.c (.fn (.func 85) [] [])) [.t 3]⟩, ⟨some 2, none, .mov (.t 4)⟩] (regK K [0, 3, 4]) (panK K) env H := aw_reg _ _
def strconv_Itoa_c2 : AC := .seq strconv_Itoa_c1 .ret
@[simp] theorem strconv_Itoa_c2_eq : aw PP strconv_Itoa_c2 K env H = aw PP strconv_Itoa_c1 (seqK PP .ret K) env H := aw_seq strconv_Itoa_c1 .ret
def strconv_Itoa_c3 : AC := .seq strconv_Itoa_c0 strconv_Itoa_c2
@[simp] theorem strconv_Itoa_c3_eq : aw PP strconv_Itoa_c3 K env H = aw PP strconv_Itoa_c0 (seqK PP strconv_Itoa_c2 K) env H := aw_seq strconv_Itoa_c0 strconv_Itoa_c2
def strconv_Itoa_ac : AC := strconv_Itoa_c3
@[simp] theorem strconv_Itoa_ac_eq : aw PP strconv_Itoa_ac K env H = aw PP strconv_Itoa_c3 K env H := Eq.trans rfl rfl
def strconv_Itoa_rs : List ARV := [.tmp 2]
abbrev strconv_Itoa_id : Nat := 63
theorem strconv_Itoa_comp : compF PP strconv_Itoa_kl strconv_Itoa_ow 1 Tryd.f63 = some (strconv_Itoa_ac, strconv_Itoa_rs) := by kernel_rfl
theorem strconv_Itoa_enter {args : List AV} {H : AHeap} {post : ARes → AHeap → Prop} (ha : args.length = 1) (h : aw PP strconv_Itoa_ac (retK strconv_Itoa_rs post) (argEnv 0 args) H) : ACalls PP strconv_Itoa_id args H post := .enterF Tryd.func63 PP_mix strconv_Itoa_comp ha h

/-! emendate.grammarparser.span -/
def gP_span_kl : Nat → List Nat
  | 0 => [6]
  | 1 => [7, 8, 9, 10, 11, 12, 13, 14, 15, 16]
  | 2 => [17, 18, 19]
  | 3 => [0, 1, 2, 17, 20]
  | _ => []
def gP_span_ow : Nat → Nat → Bool := fun _ _ => false
def gP_span_c0 : AC := .reg [⟨some 6, none, .mov (.c (.int (.i64) 0))⟩] [6]
@[simp] theorem gP_span_c0_eq : aw PP gP_span_c0 K env H = awOps PP [⟨some 6, none, .mov (.c (.int (.i64) 0))⟩] (regK K [6]) (panK K) env H := aw_reg _ _
def gP_span_c1 : AC := .reg [⟨some 7, none, .mov (.t 1)⟩, ⟨some 8, none, .mov (.t 0)⟩, ⟨some 9, none, .lens (.t 8)⟩, ⟨some 10, none, .bin (.lss) (.t 7) (.t 9)⟩, ⟨some 11, none, .mov (.t 10)⟩, ⟨some 12, some (11, true), .mov (.t 2)⟩, ⟨some 13, some (11, true), .mov (.t 0)⟩, ⟨some 14, some (11, true), .mov (.t 1)⟩, ⟨some 15, some (11, true), .ix (.t 13) (.t 14)⟩, ⟨some 16, some (11, true), .call (.t 12) [.t 15]⟩, ⟨some 17, none, .pick (.t 11) (.t 16) (.c (.bool false))⟩] [7, 8, 9, 10, 11, 12, 13, 14, 15, 16]
@[simp] theorem gP_span_c1_eq : aw PP gP_span_c1 K env H = awOps PP [⟨some 7, none, .mov (.t 1)⟩, ⟨some 8, none, .mov (.t 0)⟩, ⟨some 9, none, .lens (.t 8)⟩, ⟨some 10, none, .bin (.lss) (.t 7) (.t 9)⟩, ⟨some 11, none, .mov (.t 10)⟩, ⟨some 12, some (11, true), .mov (.t 2)⟩, ⟨some 13, some (11, true), .mov (.t 0)⟩, ⟨some 14, some (11, true), .mov (.t 1)⟩, ⟨some 15, some (11, true), .ix (.t 13) (.t 14)⟩, ⟨some 16, some (11, true), .call (.t 12) [.t 15]⟩, ⟨some 17, none, .pick (.t 11) (.t 16) (.c (.bool false))⟩] (regK K [7, 8, 9, 10, 11, 12, 13, 14, 15, 16]) (panK K) env H := aw_reg _ _
def gP_span_c2 : AC := .cond (.t 17) .skip (.exit 0)
@[simp] theorem gP_span_c2_eq : aw PP gP_span_c2 K env H = condQ PP (Opd.ev env (.t 17)) .skip (.exit 0) K env H := aw_cond _ .skip (.exit 0)
def gP_span_c3 : AC := .seq gP_span_c1 gP_span_c2
@[simp] theorem gP_span_c3_eq : aw PP gP_span_c3 K env H = aw PP gP_span_c1 (seqK PP gP_span_c2 K) env H := aw_seq gP_span_c1 gP_span_c2
def gP_span_c4 : AC := .reg [⟨some 18, none, .mov (.t 1)⟩, ⟨some 19, none, .bin (.add) (.t 18) (.c (.int (.i64) 1))⟩, ⟨some 1, none, .mov (.t 19)⟩] [17, 18, 19]
@[simp] theorem gP_span_c4_eq : aw PP gP_span_c4 K env H = awOps PP [⟨some 18, none, .mov (.t 1)⟩, ⟨some 19, none, .bin (.add) (.t 18) (.c (.int (.i64) 1))⟩, ⟨some 1, none, .mov (.t 19)⟩] (regK K [17, 18, 19]) (panK K) env H := aw_reg _ _
def gP_span_c5 : AC := .block 1 gP_span_c4
@[simp] theorem gP_span_c5_eq : aw PP gP_span_c5 K env H = aw PP gP_span_c4 (blockK 1 K) env H := aw_block _ gP_span_c4
def gP_span_c6 : AC := .seq gP_span_c3 gP_span_c5
@[simp] theorem gP_span_c6_eq : aw PP gP_span_c6 K env H = aw PP gP_span_c3 (seqK PP gP_span_c5 K) env H := aw_seq gP_span_c3 gP_span_c5
def gP_span_c7 : AC := .loop gP_span_c6
def gP_span_c8 : AC := .block 0 gP_span_c7
@[simp] theorem gP_span_c8_eq : aw PP gP_span_c8 K env H = aw PP gP_span_c7 (blockK 0 K) env H := aw_block _ gP_span_c7
def gP_span_c9 : AC := .reg [⟨some 20, none, .mov (.t 1)⟩, ⟨some 6, none, .mov (.t 20)⟩] [0, 1, 2, 17, 20]
@[simp] theorem gP_span_c9_eq : aw PP gP_span_c9 K env H = awOps PP [⟨some 20, none, .mov (.t 1)⟩, ⟨some 6, none, .mov (.t 20)⟩] (regK K [0, 1, 2, 17, 20]) (panK K) env H := aw_reg _ _
def gP_span_c10 : AC := .seq gP_span_c9 .ret
@[simp] theorem gP_span_c10_eq : aw PP gP_span_c10 K env H = aw PP gP_span_c9 (seqK PP .ret K) env H := aw_seq gP_span_c9 .ret
def gP_span_c11 : AC := .seq gP_span_c8 gP_span_c10
@[simp] theorem gP_span_c11_eq : aw PP gP_span_c11 K env H = aw PP gP_span_c8 (seqK PP gP_span_c10 K) env H := aw_seq gP_span_c8 gP_span_c10
def gP_span_c12 : AC := .seq gP_span_c0 gP_span_c11
@[simp] theorem gP_span_c12_eq : aw PP gP_span_c12 K env H = aw PP gP_span_c0 (seqK PP gP_span_c11 K) env H := aw_seq gP_span_c0 gP_span_c11
def gP_span_ac : AC := gP_span_c12
@[simp] theorem gP_span_ac_eq : aw PP gP_span_ac K env H = aw PP gP_span_c12 K env H := Eq.trans rfl rfl
def gP_span_rs : List ARV := [.tmp 6]
abbrev gP_span_id : Nat := 66
theorem gP_span_comp : compF PP gP_span_kl gP_span_ow 3 Tryd.f66 = some (gP_span_ac, gP_span_rs) := by kernel_rfl
theorem gP_span_enter {args : List AV} {H : AHeap} {post : ARes → AHeap → Prop} (ha : args.length = 3) (h : aw PP gP_span_ac (retK gP_span_rs post) (argEnv 0 args) H) : ACalls PP gP_span_id args H post := .enterF Tryd.func66 PP_mix gP_span_comp ha h

/-! emendate.grammarparser.lex$1 -/
def gP_lex_1_kl : Nat → List Nat
  | 0 => [2]
  | 1 => [0, 3, 4]
  | _ => []
def gP_lex_1_ow : Nat → Nat → Bool := fun _ _ => false
def gP_lex_1_c0 : AC := .reg [⟨some 2, none, .mov (.c (.bool false))⟩] [2]
@[simp] theorem gP_lex_1_c0_eq : aw PP gP_lex_1_c0 K env H = awOps PP [⟨some 2, none, .mov (.c (.bool false))⟩] (regK K [2]) (panK K) env H := aw_reg _ _
def gP_lex_1_c1 : AC := .reg [⟨some 3, none, .mov (.t 0)⟩, ⟨some 4, none, .bin (.neq) (.t 3) (.c (.int (.u8) 10))⟩, ⟨some 2, none, .mov (.t 4)⟩] [0, 3, 4]
@[simp] theorem gP_lex_1_c1_eq : aw PP gP_lex_1_c1 K env H = awOps PP [⟨some 3, none, .mov (.t 0)⟩, ⟨some 4, none, .bin (.neq) (.t 3) (.c (.int (.u8) 10))⟩, ⟨some 2, none, .mov (.t 4)⟩] (regK K [0, 3, 4]) (panK K) env H := aw_reg _ _
def gP_lex_1_c2 : AC := .seq gP_lex_1_c1 .ret
@[simp] theorem gP_lex_1_c2_eq : aw PP gP_lex_1_c2 K env H = aw PP gP_lex_1_c1 (seqK PP .ret K) env H := aw_seq gP_lex_1_c1 .ret
def gP_lex_1_c3 : AC := .seq gP_lex_1_c0 gP_lex_1_c2
@[simp] theorem gP_lex_1_c3_eq : aw PP gP_lex_1_c3 K env H = aw PP gP_lex_1_c0 (seqK PP gP_lex_1_c2 K) env H := aw_seq gP_lex_1_c0 gP_lex_1_c2
def gP_lex_1_ac : AC := gP_lex_1_c3
@[simp] theorem gP_lex_1_ac_eq : aw PP gP_lex_1_ac K env H = aw PP gP_lex_1_c3 K env H := Eq.trans rfl rfl
def gP_lex_1_rs : List ARV := [.tmp 2]
abbrev gP_lex_1_id : Nat := 67
theorem gP_lex_1_comp : compF PP gP_lex_1_kl gP_lex_1_ow 1 Tryd.f67 = some (gP_lex_1_ac, gP_lex_1_rs) := by kernel_rfl
theorem gP_lex_1_enter {args : List AV} {H : AHeap} {post : ARes → AHeap → Prop} (ha : args.length = 1) (h : aw PP gP_lex_1_ac (retK gP_lex_1_rs post) (argEnv 0 args) H) : ACalls PP gP_lex_1_id args H post := .enterF Tryd.func67 PP_mix gP_lex_1_comp ha h

/-! emendate.grammarparser.letter -/
def gP_letter_kl : Nat → List Nat
  | 0 => [2]
  | 1 => [0, 3, 4, 5, 6, 7, 8, 9, 10, 11, 12, 13, 14, 15, 16]
  | _ => []
def gP_letter_ow : Nat → Nat → Bool := fun _ _ => false
def gP_letter_c0 : AC := .reg [⟨some 2, none, .mov (.c (.bool false))⟩] [2]
@[simp] theorem gP_letter_c0_eq : aw PP gP_letter_c0 K env H = awOps PP [⟨some 2, none, .mov (.c (.bool false))⟩] (regK K [2]) (panK K) env H := aw_reg _ _
def gP_letter_c1 : AC := .reg [⟨some 3, none, .mov (.t 0)⟩, ⟨some 4, none, .bin (.geq) (.t 3) (.c (.int (.u8) 97))⟩, ⟨some 5, none, .mov (.t 4)⟩, ⟨some 6, some (5, true), .mov (.t 0)⟩, ⟨some 7, some (5, true), .bin (.leq) (.t 6) (.c (.int (.u8) 122))⟩, ⟨some 8, none, .pick (.t 5) (.t 7) (.c (.bool false))⟩, ⟨some 9, none, .mov (.t 8)⟩, ⟨some 10, some (9, false), .mov (.t 0)⟩, ⟨some 11, some (9, false), .bin (.geq) (.t 10) (.c (.int (.u8) 65))⟩, ⟨some 12, some (9, false), .mov (.t 11)⟩, ⟨some 13, some (12, true), .mov (.t 0)⟩, ⟨some 14, some (12, true), .bin (.leq) (.t 13) (.c (.int (.u8) 90))⟩, ⟨some 15, some (9, false), .pick (.t 12) (.t 14) (.c (.bool false))⟩, ⟨some 16, none, .pick (.t 9) (.c (.bool true)) (.t 15)⟩, ⟨some 2, none, .mov (.t 16)⟩] [0, 3, 4, 5, 6, 7, 8, 9, 10, 11, 12, 13, 14, 15, 16]
@[simp] theorem gP_letter_c1_eq : aw PP gP_letter_c1 K env H = awOps PP [⟨some 3, none, .mov (.t 0)⟩, ⟨some 4, none, .bin (.geq) (.t 3) (.c (.int (.u8) 97))⟩, ⟨some 5, none, .mov (.t 4)⟩, ⟨some 6, some (5, true), .mov (.t 0)⟩, ⟨some 7, some (5, true), .bin (.leq) (.t 6) (.c (.int (.u8) 122))⟩, ⟨some 8, none, .pick (.t 5) (.t 7) (.c (.bool false))⟩, ⟨some 9, none, .mov (.t 8)⟩, ⟨some 10, some (9, false), .mov (.t 0)⟩, ⟨some 11, some (9, false), .bin (.geq) (.t 10) (.c (.int (.u8) 65))⟩, ⟨some 12, some (9, false), .mov (.t 11)⟩, ⟨some 13, some (12, true), .mov (.t 0)⟩, ⟨some 14, some (12, true), .bin (.leq) (.t 13) (.c (.int (.u8) 90))⟩, ⟨some 15, some (9, false), .pick (.t 12) (.t 14) (.c (.bool false))⟩, ⟨some 16, none, .pick (.t 9) (.c (.bool true)) (.t 15)⟩, ⟨some 2, none, .mov (.t 16)⟩] (regK K [0, 3, 4, 5, 6, 7, 8, 9, 10, 11, 12, 13, 14, 15, 16]) (panK K) env H := aw_reg _ _
def gP_letter_c2 : AC := .seq gP_letter_c1 .ret
@[simp] theorem gP_letter_c2_eq : aw PP gP_letter_c2 K env H = aw PP gP_letter_c1 (seqK PP .ret K) env H := aw_seq gP_letter_c1 .ret
def gP_letter_c3 : AC := .seq gP_letter_c0 gP_letter_c2
@[simp] theorem gP_letter_c3_eq : aw PP gP_letter_c3 K env H = aw PP gP_letter_c0 (seqK PP gP_letter_c2 K) env H := aw_seq gP_letter_c0 gP_letter_c2
def gP_letter_ac : AC := gP_letter_c3
@[simp] theorem gP_letter_ac_eq : aw PP gP_letter_ac K env H = aw PP gP_letter_c3 K env H := Eq.trans rfl rfl
def gP_letter_rs : List ARV := [.tmp 2]
abbrev gP_letter_id : Nat := 68
theorem gP_letter_comp : compF PP gP_letter_kl gP_letter_ow 1 Tryd.f68 = some (gP_letter_ac, gP_letter_rs) := by kernel_rfl
theorem gP_letter_enter {args : List AV} {H : AHeap} {post : ARes → AHeap → Prop} (ha : args.length = 1) (h : aw PP gP_letter_ac (retK gP_letter_rs post) (argEnv 0 args) H) : ACalls PP gP_letter_id args H post := .enterF Tryd.func68 PP_mix gP_letter_comp ha h

/-! emendate.grammarparser.lex$2 -/
def gP_lex_2_kl : Nat → List Nat
  | 0 => [2]
  | 1 => [0, 3, 4, 5, 6, 7, 8, 9, 10, 11, 12]
  | _ => []
def gP_lex_2_ow : Nat → Nat → Bool := fun _ _ => false
def gP_lex_2_c0 : AC := .reg [⟨some 2, none, .mov (.c (.bool false))⟩] [2]
@[simp] theorem gP_lex_2_c0_eq : aw PP gP_lex_2_c0 K env H = awOps PP [⟨some 2, none, .mov (.c (.bool false))⟩] (regK K [2]) (panK K) env H := aw_reg _ _
def gP_lex_2_c1 : AC := .reg [⟨some 3, none, .mov (.t 0)⟩, ⟨some 4, none, .call (.c (.fn (.func 68) [] [])) [.t 3]⟩, ⟨some 5, none, .mov (.t 4)⟩, ⟨some 6, some (5, false), .mov (.t 0)⟩, ⟨some 7, some (5, false), .call (.c (.fn (.func 70) [] [])) [.t 6]⟩, ⟨some 8, none, .pick (.t 5) (.c (.bool true)) (.t 7)⟩, ⟨some 9, none, .mov (.t 8)⟩, ⟨some 10, some (9, false), .mov (.t 0)⟩, ⟨some 11, some (9, false), .bin (.eql) (.t 10) (.c (.int (.u8) 95))⟩, ⟨some 12, none, .pick (.t 9) (.c (.bool true)) (.t 11)⟩, ⟨some 2, none, .mov (.t 12)⟩] [0, 3, 4, 5, 6, 7, 8, 9, 10, 11, 12]
@[simp] theorem gP_lex_2_c1_eq : aw PP gP_lex_2_c1 K env H = awOps PP [⟨some 3, none, .mov (.t 0)⟩, ⟨some 4, none, .call (.c (.fn (.func 68) [] [])) [.t 3]⟩, ⟨some 5, none, .mov (.t 4)⟩, ⟨some 6, some (5, false), .mov (.t 0)⟩, ⟨some 7, some (5, false), .call (.c (.fn (.func 70) [] [])) [.t 6]⟩, ⟨some 8, none, .pick (.t 5) (.c (.bool true)) (.t 7)⟩, ⟨some 9, none, .mov (.t 8)⟩, ⟨some 10, some (9, false), .mov (.t 0)⟩, ⟨some 11, some (9, false), .bin (.eql) (.t 10) (.c (.int (.u8) 95))⟩, ⟨some 12, none, .pick (.t 9) (.c (.bool true)) (.t 11)⟩, ⟨some 2, none, .mov (.t 12)⟩] (regK K [0, 3, 4, 5, 6, 7, 8, 9, 10, 11, 12]) (panK K) env H := aw_reg _ _
def gP_lex_2_c2 : AC := .seq gP_lex_2_c1 .ret
@[simp] theorem gP_lex_2_c2_eq : aw PP gP_lex_2_c2 K env H = aw PP gP_lex_2_c1 (seqK PP .ret K) env H := aw_seq gP_lex_2_c1 .ret
def gP_lex_2_c3 : AC := .seq gP_lex_2_c0 gP_lex_2_c2
@[simp] theorem gP_lex_2_c3_eq : aw PP gP_lex_2_c3 K env H = aw PP gP_lex_2_c0 (seqK PP gP_lex_2_c2 K) env H := aw_seq gP_lex_2_c0 gP_lex_2_c2
def gP_lex_2_ac : AC := gP_lex_2_c3
@[simp] theorem gP_lex_2_ac_eq : aw PP gP_lex_2_ac K env H = aw PP gP_lex_2_c3 K env H := Eq.trans rfl rfl
def gP_lex_2_rs : List ARV := [.tmp 2]
abbrev gP_lex_2_id : Nat := 69
theorem gP_lex_2_comp : compF PP gP_lex_2_kl gP_lex_2_ow 1 Tryd.f69 = some (gP_lex_2_ac, gP_lex_2_rs) := by kernel_rfl
theorem gP_lex_2_enter {args : List AV} {H : AHeap} {post : ARes → AHeap → Prop} (ha : args.length = 1) (h : aw PP gP_lex_2_ac (retK gP_lex_2_rs post) (argEnv 0 args) H) : ACalls PP gP_lex_2_id args H post := .enterF Tryd.func69 PP_mix gP_lex_2_comp ha h

/-! emendate.grammarparser.digit -/
def gP_digit_kl : Nat → List Nat
  | 0 => [2]
  | 1 => [0, 3, 4, 5, 6, 7, 8]
  | _ => []
def gP_digit_ow : Nat → Nat → Bool := fun _ _ => false
def gP_digit_c0 : AC := .reg [⟨some 2, none, .mov (.c (.bool false))⟩] [2]
@[simp] theorem gP_digit_c0_eq : aw PP gP_digit_c0 K env H = awOps PP [⟨some 2, none, .mov (.c (.bool false))⟩] (regK K [2]) (panK K) env H := aw_reg _ _
def gP_digit_c1 : AC := .reg [⟨some 3, none, .mov (.t 0)⟩, ⟨some 4, none, .bin (.geq) (.t 3) (.c (.int (.u8) 48))⟩, ⟨some 5, none, .mov (.t 4)⟩, ⟨some 6, some (5, true), .mov (.t 0)⟩, ⟨some 7, some (5, true), .bin (.leq) (.t 6) (.c (.int (.u8) 57))⟩, ⟨some 8, none, .pick (.t 5) (.t 7) (.c (.bool false))⟩, ⟨some 2, none, .mov (.t 8)⟩] [0, 3, 4, 5, 6, 7, 8]
@[simp] theorem gP_digit_c1_eq : aw PP gP_digit_c1 K env H = awOps PP [⟨some 3, none, .mov (.t 0)⟩, ⟨some 4, none, .bin (.geq) (.t 3) (.c (.int (.u8) 48))⟩, ⟨some 5, none, .mov (.t 4)⟩, ⟨some 6, some (5, true), .mov (.t 0)⟩, ⟨some 7, some (5, true), .bin (.leq) (.t 6) (.c (.int (.u8) 57))⟩, ⟨some 8, none, .pick (.t 5) (.t 7) (.c (.bool false))⟩, ⟨some 2, none, .mov (.t 8)⟩] (regK K [0, 3, 4, 5, 6, 7, 8]) (panK K) env H := aw_reg _ _
def gP_digit_c2 : AC := .seq gP_digit_c1 .ret
@[simp] theorem gP_digit_c2_eq : aw PP gP_digit_c2 K env H = aw PP gP_digit_c1 (seqK PP .ret K) env H := aw_seq gP_digit_c1 .ret
def gP_digit_c3 : AC := .seq gP_digit_c0 gP_digit_c2
@[simp] theorem gP_digit_c3_eq : aw PP gP_digit_c3 K env H = aw PP gP_digit_c0 (seqK PP gP_digit_c2 K) env H := aw_seq gP_digit_c0 gP_digit_c2
def gP_digit_ac : AC := gP_digit_c3
@[simp] theorem gP_digit_ac_eq : aw PP gP_digit_ac K env H = aw PP gP_digit_c3 K env H := Eq.trans rfl rfl
def gP_digit_rs : List ARV := [.tmp 2]
abbrev gP_digit_id : Nat := 70
theorem gP_digit_comp : compF PP gP_digit_kl gP_digit_ow 1 Tryd.f70 = some (gP_digit_ac, gP_digit_rs) := by kernel_rfl
theorem gP_digit_enter {args : List AV} {H : AHeap} {post : ARes → AHeap → Prop} (ha : args.length = 1) (h : aw PP gP_digit_ac (retK gP_digit_rs post) (argEnv 0 args) H) : ACalls PP gP_digit_id args H post := .enterF Tryd.func70 PP_mix gP_digit_comp ha h

/-! emendate.grammarparser.value -/
def gP_value_kl : Nat → List Nat
  | 0 => [2]
  | 2 => [5]
  | 4 => [8, 9]
  | 5 => [4, 10, 11, 12, 13, 14, 15, 16, 17, 18]
  | 6 => [19]
  | 7 => [0, 3, 6, 7, 8, 20]
  | _ => []
def gP_value_ow : Nat → Nat → Bool := fun _ _ => false
def gP_value_c0 : AC := .reg [⟨some 2, none, .mov (.c (.int (.i64) 0))⟩] [2]
@[simp] theorem gP_value_c0_eq : aw PP gP_value_c0 K env H = awOps PP [⟨some 2, none, .mov (.c (.int (.i64) 0))⟩] (regK K [2]) (panK K) env H := aw_reg _ _
def gP_value_c1 : AC := .reg [⟨some 3, none, .mov (.c (.int (.i64) 0))⟩] []
@[simp] theorem gP_value_c1_eq : aw PP gP_value_c1 K env H = awOps PP [⟨some 3, none, .mov (.c (.int (.i64) 0))⟩] (regK K []) (panK K) env H := aw_reg _ _
def gP_value_c2 : AC := .reg [⟨some 5, none, .mov (.t 0)⟩, ⟨some 6, none, .lens (.t 5)⟩, ⟨some 7, none, .mov (.c (.int (.i64) 0))⟩] [5]
@[simp] theorem gP_value_c2_eq : aw PP gP_value_c2 K env H = awOps PP [⟨some 5, none, .mov (.t 0)⟩, ⟨some 6, none, .lens (.t 5)⟩, ⟨some 7, none, .mov (.c (.int (.i64) 0))⟩] (regK K [5]) (panK K) env H := aw_reg _ _
def gP_value_c3 : AC := .reg [⟨some 8, none, .bin (.lss) (.t 7) (.t 6)⟩] []
@[simp] theorem gP_value_c3_eq : aw PP gP_value_c3 K env H = awOps PP [⟨some 8, none, .bin (.lss) (.t 7) (.t 6)⟩] (regK K []) (panK K) env H := aw_reg _ _
def gP_value_c4 : AC := .cond (.t 8) .skip (.exit 0)
@[simp] theorem gP_value_c4_eq : aw PP gP_value_c4 K env H = condQ PP (Opd.ev env (.t 8)) .skip (.exit 0) K env H := aw_cond _ .skip (.exit 0)
def gP_value_c5 : AC := .reg [⟨some 9, none, .mov (.t 7)⟩, ⟨some 4, none, .mov (.t 9)⟩] [8, 9]
@[simp] theorem gP_value_c5_eq : aw PP gP_value_c5 K env H = awOps PP [⟨some 9, none, .mov (.t 7)⟩, ⟨some 4, none, .mov (.t 9)⟩] (regK K [8, 9]) (panK K) env H := aw_reg _ _
def gP_value_c6 : AC := .reg [⟨some 10, none, .mov (.t 3)⟩, ⟨some 11, none, .bin (.mul) (.c (.int (.i64) 10)) (.t 10)⟩, ⟨some 12, none, .mov (.t 0)⟩, ⟨some 13, none, .mov (.t 4)⟩, ⟨some 14, none, .ix (.t 12) (.t 13)⟩, ⟨some 15, none, .bin (.sub) (.t 14) (.c (.int (.u8) 48))⟩, ⟨some 16, none, .conv (.i64) (.t 15)⟩, ⟨some 17, none, .bin (.add) (.t 11) (.t 16)⟩, ⟨some 18, none, .mn (.t 17) (.c (.int (.i64) 1001))⟩, ⟨some 3, none, .mov (.t 18)⟩] [4, 10, 11, 12, 13, 14, 15, 16, 17, 18]
@[simp] theorem gP_value_c6_eq : aw PP gP_value_c6 K env H = awOps PP [⟨some 10, none, .mov (.t 3)⟩, ⟨some 11, none, .bin (.mul) (.c (.int (.i64) 10)) (.t 10)⟩, ⟨some 12, none, .mov (.t 0)⟩, ⟨some 13, none, .mov (.t 4)⟩, ⟨some 14, none, .ix (.t 12) (.t 13)⟩, ⟨some 15, none, .bin (.sub) (.t 14) (.c (.int (.u8) 48))⟩, ⟨some 16, none, .conv (.i64) (.t 15)⟩, ⟨some 17, none, .bin (.add) (.t 11) (.t 16)⟩, ⟨some 18, none, .mn (.t 17) (.c (.int (.i64) 1001))⟩, ⟨some 3, none, .mov (.t 18)⟩] (regK K [4, 10, 11, 12, 13, 14, 15, 16, 17, 18]) (panK K) env H := aw_reg _ _
def gP_value_c7 : AC := .seq gP_value_c5 gP_value_c6
@[simp] theorem gP_value_c7_eq : aw PP gP_value_c7 K env H = aw PP gP_value_c5 (seqK PP gP_value_c6 K) env H := aw_seq gP_value_c5 gP_value_c6
def gP_value_c8 : AC := .block 1 gP_value_c7
@[simp] theorem gP_value_c8_eq : aw PP gP_value_c8 K env H = aw PP gP_value_c7 (blockK 1 K) env H := aw_block _ gP_value_c7
def gP_value_c9 : AC := .reg [⟨some 19, none, .bin (.add) (.t 7) (.c (.int (.i64) 1))⟩, ⟨some 7, none, .mov (.t 19)⟩] [19]
@[simp] theorem gP_value_c9_eq : aw PP gP_value_c9 K env H = awOps PP [⟨some 19, none, .bin (.add) (.t 7) (.c (.int (.i64) 1))⟩, ⟨some 7, none, .mov (.t 19)⟩] (regK K [19]) (panK K) env H := aw_reg _ _
def gP_value_c10 : AC := .seq gP_value_c8 gP_value_c9
@[simp] theorem gP_value_c10_eq : aw PP gP_value_c10 K env H = aw PP gP_value_c8 (seqK PP gP_value_c9 K) env H := aw_seq gP_value_c8 gP_value_c9
def gP_value_c11 : AC := .seq gP_value_c4 gP_value_c10
@[simp] theorem gP_value_c11_eq : aw PP gP_value_c11 K env H = aw PP gP_value_c4 (seqK PP gP_value_c10 K) env H := aw_seq gP_value_c4 gP_value_c10
def gP_value_c12 : AC := .seq gP_value_c3 gP_value_c11
@[simp] theorem gP_value_c12_eq : aw PP gP_value_c12 K env H = aw PP gP_value_c3 (seqK PP gP_value_c11 K) env H := aw_seq gP_value_c3 gP_value_c11
def gP_value_c13 : AC := .loop gP_value_c12
def gP_value_c14 : AC := .block 0 gP_value_c13
@[simp] theorem gP_value_c14_eq : aw PP gP_value_c14 K env H = aw PP gP_value_c13 (blockK 0 K) env H := aw_block _ gP_value_c13
def gP_value_c15 : AC := .seq gP_value_c2 gP_value_c14
@[simp] theorem gP_value_c15_eq : aw PP gP_value_c15 K env H = aw PP gP_value_c2 (seqK PP gP_value_c14 K) env H := aw_seq gP_value_c2 gP_value_c14
def gP_value_c16 : AC := .reg [⟨some 20, none, .mov (.t 3)⟩, ⟨some 2, none, .mov (.t 20)⟩] [0, 3, 6, 7, 8, 20]
@[simp] theorem gP_value_c16_eq : aw PP gP_value_c16 K env H = awOps PP [⟨some 20, none, .mov (.t 3)⟩, ⟨some 2, none, .mov (.t 20)⟩] (regK K [0, 3, 6, 7, 8, 20]) (panK K) env H := aw_reg _ _
def gP_value_c17 : AC := .seq gP_value_c16 .ret
@[simp] theorem gP_value_c17_eq : aw PP gP_value_c17 K env H = aw PP gP_value_c16 (seqK PP .ret K) env H := aw_seq gP_value_c16 .ret
def gP_value_c18 : AC := .seq gP_value_c15 gP_value_c17
@[simp] theorem gP_value_c18_eq : aw PP gP_value_c18 K env H = aw PP gP_value_c15 (seqK PP gP_value_c17 K) env H := aw_seq gP_value_c15 gP_value_c17
def gP_value_c19 : AC := .seq gP_value_c1 gP_value_c18
@[simp] theorem gP_value_c19_eq : aw PP gP_value_c19 K env H = aw PP gP_value_c1 (seqK PP gP_value_c18 K) env H := aw_seq gP_value_c1 gP_value_c18
def gP_value_c20 : AC := .seq gP_value_c0 gP_value_c19
@[simp] theorem gP_value_c20_eq : aw PP gP_value_c20 K env H = aw PP gP_value_c0 (seqK PP gP_value_c19 K) env H := aw_seq gP_value_c0 gP_value_c19
def gP_value_ac : AC := gP_value_c20
@[simp] theorem gP_value_ac_eq : aw PP gP_value_ac K env H = aw PP gP_value_c20 K env H := Eq.trans rfl rfl
def gP_value_rs : List ARV := [.tmp 2]
abbrev gP_value_id : Nat := 71
theorem gP_value_comp : compF PP gP_value_kl gP_value_ow 1 Tryd.f71 = some (gP_value_ac, gP_value_rs) := by kernel_rfl
theorem gP_value_enter {args : List AV} {H : AHeap} {post : ARes → AHeap → Prop} (ha : args.length = 1) (h : aw PP gP_value_ac (retK gP_value_rs post) (argEnv 0 args) H) : ACalls PP gP_value_id args H post := .enterF Tryd.func71 PP_mix gP_value_comp ha h

/-! (*emendate.grammarparser.reader).peek -/
def gR_peek_kl : Nat → List Nat
  | 1 => [3, 4, 5, 6, 7]
  | 2 => [0, 8, 9, 10, 11, 12, 13]
  | 3 => [0, 8, 14, 15, 16, 17, 18, 19]
  | _ => []
def gR_peek_ow : Nat → Nat → Bool := fun _ _ => false
def gR_peek_c0 : AC := .reg [⟨some 2, none, .alloc (.struct [.int (.i64) 0, .str [], .bool false, .int (.i64) 0]) 100⟩] []
@[simp] theorem gR_peek_c0_eq : aw PP gR_peek_c0 K env H = awOps PP [⟨some 2, none, .alloc (.struct [.int (.i64) 0, .str [], .bool false, .int (.i64) 0]) 100⟩] (regK K []) (panK K) env H := aw_reg _ _
def gR_peek_c1 : AC := .reg [⟨some 3, none, .mov (.t 0)⟩, ⟨some 4, none, .nilc (.t 3)⟩, ⟨some 5, none, .fa 0 0 (.t 4)⟩, ⟨some 6, none, .ld false 1 (.t 5)⟩, ⟨some 7, none, .lenl (.t 6)⟩, ⟨some 8, none, .bin (.eql) (.t 7) (.c (.int (.i64) 0))⟩] [3, 4, 5, 6, 7]
@[simp] theorem gR_peek_c1_eq : aw PP gR_peek_c1 K env H = awOps PP [⟨some 3, none, .mov (.t 0)⟩, ⟨some 4, none, .nilc (.t 3)⟩, ⟨some 5, none, .fa 0 0 (.t 4)⟩, ⟨some 6, none, .ld false 1 (.t 5)⟩, ⟨some 7, none, .lenl (.t 6)⟩, ⟨some 8, none, .bin (.eql) (.t 7) (.c (.int (.i64) 0))⟩] (regK K [3, 4, 5, 6, 7]) (panK K) env H := aw_reg _ _
def gR_peek_c2 : AC := .reg [⟨some 9, none, .mov (.t 0)⟩, ⟨some 10, none, .nilc (.t 9)⟩, ⟨some 11, none, .fa 1 1 (.t 10)⟩, ⟨some 12, none, .ld false 1 (.t 11)⟩, ⟨some 13, none, .build [.int (.i64) 0, .str [], .bool false, .int (.i64) 0] [(0, .t 12), (3, .c (.int (.i64) (-1)))]⟩, ⟨none, none, .st 4 (.t 2) (.t 13)⟩] [0, 8, 9, 10, 11, 12, 13]
@[simp] theorem gR_peek_c2_eq : aw PP gR_peek_c2 K env H = awOps PP [⟨some 9, none, .mov (.t 0)⟩, ⟨some 10, none, .nilc (.t 9)⟩, ⟨some 11, none, .fa 1 1 (.t 10)⟩, ⟨some 12, none, .ld false 1 (.t 11)⟩, ⟨some 13, none, .build [.int (.i64) 0, .str [], .bool false, .int (.i64) 0] [(0, .t 12), (3, .c (.int (.i64) (-1)))]⟩, ⟨none, none, .st 4 (.t 2) (.t 13)⟩] (regK K [0, 8, 9, 10, 11, 12, 13]) (panK K) env H := aw_reg _ _
def gR_peek_c3 : AC := .seq gR_peek_c2 .ret
@[simp] theorem gR_peek_c3_eq : aw PP gR_peek_c3 K env H = aw PP gR_peek_c2 (seqK PP .ret K) env H := aw_seq gR_peek_c2 .ret
def gR_peek_c4 : AC := .cond (.t 8) gR_peek_c3 .skip
@[simp] theorem gR_peek_c4_eq : aw PP gR_peek_c4 K env H = condQ PP (Opd.ev env (.t 8)) gR_peek_c3 .skip K env H := aw_cond _ gR_peek_c3 .skip
def gR_peek_c5 : AC := .seq gR_peek_c1 gR_peek_c4
@[simp] theorem gR_peek_c5_eq : aw PP gR_peek_c5 K env H = aw PP gR_peek_c1 (seqK PP gR_peek_c4 K) env H := aw_seq gR_peek_c1 gR_peek_c4
def gR_peek_c6 : AC := .reg [⟨some 14, none, .mov (.t 0)⟩, ⟨some 15, none, .nilc (.t 14)⟩, ⟨some 16, none, .fa 0 0 (.t 15)⟩, ⟨some 17, none, .ld false 1 (.t 16)⟩, ⟨some 18, none, .ixa 4 (.t 17) (.c (.int (.i64) 0))⟩, ⟨some 19, none, .ld true 4 (.t 18)⟩, ⟨none, none, .st 4 (.t 2) (.t 19)⟩] [0, 8, 14, 15, 16, 17, 18, 19]
@[simp] theorem gR_peek_c6_eq : aw PP gR_peek_c6 K env H = awOps PP [⟨some 14, none, .mov (.t 0)⟩, ⟨some 15, none, .nilc (.t 14)⟩, ⟨some 16, none, .fa 0 0 (.t 15)⟩, ⟨some 17, none, .ld false 1 (.t 16)⟩, ⟨some 18, none, .ixa 4 (.t 17) (.c (.int (.i64) 0))⟩, ⟨some 19, none, .ld true 4 (.t 18)⟩, ⟨none, none, .st 4 (.t 2) (.t 19)⟩] (regK K [0, 8, 14, 15, 16, 17, 18, 19]) (panK K) env H := aw_reg _ _
def gR_peek_c7 : AC := .seq gR_peek_c6 .ret
@[simp] theorem gR_peek_c7_eq : aw PP gR_peek_c7 K env H = aw PP gR_peek_c6 (seqK PP .ret K) env H := aw_seq gR_peek_c6 .ret
def gR_peek_c8 : AC := .seq gR_peek_c5 gR_peek_c7
@[simp] theorem gR_peek_c8_eq : aw PP gR_peek_c8 K env H = aw PP gR_peek_c5 (seqK PP gR_peek_c7 K) env H := aw_seq gR_peek_c5 gR_peek_c7
def gR_peek_c9 : AC := .seq gR_peek_c0 gR_peek_c8
@[simp] theorem gR_peek_c9_eq : aw PP gR_peek_c9 K env H = aw PP gR_peek_c0 (seqK PP gR_peek_c8 K) env H := aw_seq gR_peek_c0 gR_peek_c8
def gR_peek_ac : AC := gR_peek_c9
@[simp] theorem gR_peek_ac_eq : aw PP gR_peek_ac K env H = aw PP gR_peek_c9 K env H := Eq.trans rfl rfl
def gR_peek_rs : List ARV := [.cell 2 true 4]
abbrev gR_peek_id : Nat := 72
theorem gR_peek_comp : compF PP gR_peek_kl gR_peek_ow 1 Tryd.f72 = some (gR_peek_ac, gR_peek_rs) := by kernel_rfl
theorem gR_peek_enter {args : List AV} {H : AHeap} {post : ARes → AHeap → Prop} (ha : args.length = 1) (h : aw PP gR_peek_ac (retK gR_peek_rs post) (argEnv 0 args) H) : ACalls PP gR_peek_id args H post := .enterF Tryd.func72 PP_mix gR_peek_comp ha h

/-! (*emendate.grammarparser.reader).fail -/
def gR_fail_kl : Nat → List Nat
  | 0 => [0, 2, 3, 4, 5]
  | _ => []
def gR_fail_ow : Nat → Nat → Bool := fun _ _ => false
def gR_fail_c0 : AC := .reg [⟨some 2, none, .mov (.t 0)⟩, ⟨some 3, none, .call (.c (.fn (.func 72) [] [])) [.t 2]⟩, ⟨some 4, none, .fld 0 0 1 false (.t 3)⟩, ⟨some 5, none, .mkif 80 (.t 4)⟩, ⟨none, none, .pan (.t 5)⟩] [0, 2, 3, 4, 5]
@[simp] theorem gR_fail_c0_eq : aw PP gR_fail_c0 K env H = awOps PP [⟨some 2, none, .mov (.t 0)⟩, ⟨some 3, none, .call (.c (.fn (.func 72) [] [])) [.t 2]⟩, ⟨some 4, none, .fld 0 0 1 false (.t 3)⟩, ⟨some 5, none, .mkif 80 (.t 4)⟩, ⟨none, none, .pan (.t 5)⟩] (regK K [0, 2, 3, 4, 5]) (panK K) env H := aw_reg _ _
def gR_fail_ac : AC := gR_fail_c0
@[simp] theorem gR_fail_ac_eq : aw PP gR_fail_ac K env H = aw PP gR_fail_c0 K env H := Eq.trans rfl rfl
def gR_fail_rs : List ARV := []
abbrev gR_fail_id : Nat := 73
theorem gR_fail_comp : compF PP gR_fail_kl gR_fail_ow 1 Tryd.f73 = some (gR_fail_ac, gR_fail_rs) := by kernel_rfl
theorem gR_fail_enter {args : List AV} {H : AHeap} {post : ARes → AHeap → Prop} (ha : args.length = 1) (h : aw PP gR_fail_ac (retK gR_fail_rs post) (argEnv 0 args) H) : ACalls PP gR_fail_id args H post := .enterF Tryd.func73 PP_mix gR_fail_comp ha h

/-! (*emendate.grammarparser.reader).next -/
def gR_next_kl : Nat → List Nat
  | 1 => [4, 5]
  | 2 => [0, 6, 7, 8, 9, 10, 11, 12, 13]
  | 3 => [3, 14]
  | _ => []
def gR_next_ow : Nat → Nat → Bool := fun _ _ => false
def gR_next_c0 : AC := .reg [⟨some 2, none, .alloc (.struct [.int (.i64) 0, .str [], .bool false, .int (.i64) 0]) 100⟩] []
@[simp] theorem gR_next_c0_eq : aw PP gR_next_c0 K env H = awOps PP [⟨some 2, none, .alloc (.struct [.int (.i64) 0, .str [], .bool false, .int (.i64) 0]) 100⟩] (regK K []) (panK K) env H := aw_reg _ _
def gR_next_c1 : AC := .reg [⟨some 4, none, .mov (.t 0)⟩, ⟨some 5, none, .call (.c (.fn (.func 72) [] [])) [.t 4]⟩, ⟨some 3, none, .alloc (.struct [.int (.i64) 0, .str [], .bool false, .int (.i64) 0]) 100⟩, ⟨none, none, .st 4 (.t 3) (.t 5)⟩] [4, 5]
@[simp] theorem gR_next_c1_eq : aw PP gR_next_c1 K env H = awOps PP [⟨some 4, none, .mov (.t 0)⟩, ⟨some 5, none, .call (.c (.fn (.func 72) [] [])) [.t 4]⟩, ⟨some 3, none, .alloc (.struct [.int (.i64) 0, .str [], .bool false, .int (.i64) 0]) 100⟩, ⟨none, none, .st 4 (.t 3) (.t 5)⟩] (regK K [4, 5]) (panK K) env H := aw_reg _ _
def gR_next_c2 : AC := .reg [⟨some 6, none, .mov (.t 0)⟩, ⟨some 7, none, .mov (.t 0)⟩, ⟨some 8, none, .nilc (.t 7)⟩, ⟨some 9, none, .fa 0 0 (.t 8)⟩, ⟨some 10, none, .ld false 1 (.t 9)⟩, ⟨some 11, none, .sll 4 (.t 10) (some (.c (.int (.i64) 1))) none⟩, ⟨some 12, none, .nilc (.t 6)⟩, ⟨some 13, none, .fa 0 0 (.t 12)⟩, ⟨none, none, .st 1 (.t 13) (.t 11)⟩] [0, 6, 7, 8, 9, 10, 11, 12, 13]
@[simp] theorem gR_next_c2_eq : aw PP gR_next_c2 K env H = awOps PP [⟨some 6, none, .mov (.t 0)⟩, ⟨some 7, none, .mov (.t 0)⟩, ⟨some 8, none, .nilc (.t 7)⟩, ⟨some 9, none, .fa 0 0 (.t 8)⟩, ⟨some 10, none, .ld false 1 (.t 9)⟩, ⟨some 11, none, .sll 4 (.t 10) (some (.c (.int (.i64) 1))) none⟩, ⟨some 12, none, .nilc (.t 6)⟩, ⟨some 13, none, .fa 0 0 (.t 12)⟩, ⟨none, none, .st 1 (.t 13) (.t 11)⟩] (regK K [0, 6, 7, 8, 9, 10, 11, 12, 13]) (panK K) env H := aw_reg _ _
def gR_next_c3 : AC := .reg [⟨some 14, none, .ld true 4 (.t 3)⟩, ⟨none, none, .st 4 (.t 2) (.t 14)⟩] [3, 14]
@[simp] theorem gR_next_c3_eq : aw PP gR_next_c3 K env H = awOps PP [⟨some 14, none, .ld true 4 (.t 3)⟩, ⟨none, none, .st 4 (.t 2) (.t 14)⟩] (regK K [3, 14]) (panK K) env H := aw_reg _ _
def gR_next_c4 : AC := .seq gR_next_c3 .ret
@[simp] theorem gR_next_c4_eq : aw PP gR_next_c4 K env H = aw PP gR_next_c3 (seqK PP .ret K) env H := aw_seq gR_next_c3 .ret
def gR_next_c5 : AC := .seq gR_next_c2 gR_next_c4
@[simp] theorem gR_next_c5_eq : aw PP gR_next_c5 K env H = aw PP gR_next_c2 (seqK PP gR_next_c4 K) env H := aw_seq gR_next_c2 gR_next_c4
def gR_next_c6 : AC := .seq gR_next_c1 gR_next_c5
@[simp] theorem gR_next_c6_eq : aw PP gR_next_c6 K env H = aw PP gR_next_c1 (seqK PP gR_next_c5 K) env H := aw_seq gR_next_c1 gR_next_c5
def gR_next_c7 : AC := .seq gR_next_c0 gR_next_c6
@[simp] theorem gR_next_c7_eq : aw PP gR_next_c7 K env H = aw PP gR_next_c0 (seqK PP gR_next_c6 K) env H := aw_seq gR_next_c0 gR_next_c6
def gR_next_ac : AC := gR_next_c7
@[simp] theorem gR_next_ac_eq : aw PP gR_next_ac K env H = aw PP gR_next_c7 K env H := Eq.trans rfl rfl
def gR_next_rs : List ARV := [.cell 2 true 4]
abbrev gR_next_id : Nat := 74
theorem gR_next_comp : compF PP gR_next_kl gR_next_ow 1 Tryd.f74 = some (gR_next_ac, gR_next_rs) := by kernel_rfl
theorem gR_next_enter {args : List AV} {H : AHeap} {post : ARes → AHeap → Prop} (ha : args.length = 1) (h : aw PP gR_next_ac (retK gR_next_rs post) (argEnv 0 args) H) : ACalls PP gR_next_id args H post := .enterF Tryd.func74 PP_mix gR_next_comp ha h

/-! emendate.grammarparser.reserved -/
def gP_reserved_kl : Nat → List Nat
  | 0 => [2]
  | 1 => [0]
  | 2 => [5]
  | 3 => [6]
  | 4 => [7]
  | 5 => [8]
  | 6 => [3, 9]
  | 7 => [3, 4]
  | 8 => [3, 4]
  | _ => []
def gP_reserved_ow : Nat → Nat → Bool := fun _ _ => false
def gP_reserved_c0 : AC := .reg [⟨some 2, none, .mov (.c (.bool false))⟩] [2]
@[simp] theorem gP_reserved_c0_eq : aw PP gP_reserved_c0 K env H = awOps PP [⟨some 2, none, .mov (.c (.bool false))⟩] (regK K [2]) (panK K) env H := aw_reg _ _
def gP_reserved_c1 : AC := .reg [⟨some 3, none, .mov (.t 0)⟩] [0]
@[simp] theorem gP_reserved_c1_eq : aw PP gP_reserved_c1 K env H = awOps PP [⟨some 3, none, .mov (.t 0)⟩] (regK K [0]) (panK K) env H := aw_reg _ _
def gP_reserved_c2 : AC := .reg [⟨some 5, none, .bin (.eql) (.t 3) (.c (.str [115, 116, 97, 114, 116]))⟩, ⟨some 4, none, .mov (.t 5)⟩] [5]
@[simp] theorem gP_reserved_c2_eq : aw PP gP_reserved_c2 K env H = awOps PP [⟨some 5, none, .bin (.eql) (.t 3) (.c (.str [115, 116, 97, 114, 116]))⟩, ⟨some 4, none, .mov (.t 5)⟩] (regK K [5]) (panK K) env H := aw_reg _ _
def gP_reserved_c3 : AC := .reg [⟨some 6, none, .bin (.eql) (.t 3) (.c (.str [108, 101, 102, 116]))⟩, ⟨some 4, none, .mov (.t 6)⟩] [6]
@[simp] theorem gP_reserved_c3_eq : aw PP gP_reserved_c3 K env H = awOps PP [⟨some 6, none, .bin (.eql) (.t 3) (.c (.str [108, 101, 102, 116]))⟩, ⟨some 4, none, .mov (.t 6)⟩] (regK K [6]) (panK K) env H := aw_reg _ _
def gP_reserved_c4 : AC := .reg [⟨some 7, none, .bin (.eql) (.t 3) (.c (.str [114, 105, 103, 104, 116]))⟩, ⟨some 4, none, .mov (.t 7)⟩] [7]
@[simp] theorem gP_reserved_c4_eq : aw PP gP_reserved_c4 K env H = awOps PP [⟨some 7, none, .bin (.eql) (.t 3) (.c (.str [114, 105, 103, 104, 116]))⟩, ⟨some 4, none, .mov (.t 7)⟩] (regK K [7]) (panK K) env H := aw_reg _ _
def gP_reserved_c5 : AC := .reg [⟨some 8, none, .bin (.eql) (.t 3) (.c (.str [110, 111, 110, 101]))⟩, ⟨some 4, none, .mov (.t 8)⟩] [8]
@[simp] theorem gP_reserved_c5_eq : aw PP gP_reserved_c5 K env H = awOps PP [⟨some 8, none, .bin (.eql) (.t 3) (.c (.str [110, 111, 110, 101]))⟩, ⟨some 4, none, .mov (.t 8)⟩] (regK K [8]) (panK K) env H := aw_reg _ _
def gP_reserved_c6 : AC := .reg [⟨some 9, none, .bin (.eql) (.t 3) (.c (.str [112, 114, 105, 99, 101]))⟩, ⟨some 4, none, .mov (.t 9)⟩] [3, 9]
@[simp] theorem gP_reserved_c6_eq : aw PP gP_reserved_c6 K env H = awOps PP [⟨some 9, none, .bin (.eql) (.t 3) (.c (.str [112, 114, 105, 99, 101]))⟩, ⟨some 4, none, .mov (.t 9)⟩] (regK K [3, 9]) (panK K) env H := aw_reg _ _
def gP_reserved_c7 : AC := .cond (.t 4) .skip gP_reserved_c6
@[simp] theorem gP_reserved_c7_eq : aw PP gP_reserved_c7 K env H = condQ PP (Opd.ev env (.t 4)) .skip gP_reserved_c6 K env H := aw_cond _ .skip gP_reserved_c6
def gP_reserved_c8 : AC := .seq gP_reserved_c5 gP_reserved_c7
@[simp] theorem gP_reserved_c8_eq : aw PP gP_reserved_c8 K env H = aw PP gP_reserved_c5 (seqK PP gP_reserved_c7 K) env H := aw_seq gP_reserved_c5 gP_reserved_c7
def gP_reserved_c9 : AC := .cond (.t 4) .skip gP_reserved_c8
@[simp] theorem gP_reserved_c9_eq : aw PP gP_reserved_c9 K env H = condQ PP (Opd.ev env (.t 4)) .skip gP_reserved_c8 K env H := aw_cond _ .skip gP_reserved_c8
def gP_reserved_c10 : AC := .seq gP_reserved_c4 gP_reserved_c9
@[simp] theorem gP_reserved_c10_eq : aw PP gP_reserved_c10 K env H = aw PP gP_reserved_c4 (seqK PP gP_reserved_c9 K) env H := aw_seq gP_reserved_c4 gP_reserved_c9
def gP_reserved_c11 : AC := .cond (.t 4) .skip gP_reserved_c10
@[simp] theorem gP_reserved_c11_eq : aw PP gP_reserved_c11 K env H = condQ PP (Opd.ev env (.t 4)) .skip gP_reserved_c10 K env H := aw_cond _ .skip gP_reserved_c10
def gP_reserved_c12 : AC := .seq gP_reserved_c3 gP_reserved_c11
@[simp] theorem gP_reserved_c12_eq : aw PP gP_reserved_c12 K env H = aw PP gP_reserved_c3 (seqK PP gP_reserved_c11 K) env H := aw_seq gP_reserved_c3 gP_reserved_c11
def gP_reserved_c13 : AC := .cond (.t 4) .skip gP_reserved_c12
@[simp] theorem gP_reserved_c13_eq : aw PP gP_reserved_c13 K env H = condQ PP (Opd.ev env (.t 4)) .skip gP_reserved_c12 K env H := aw_cond _ .skip gP_reserved_c12
def gP_reserved_c14 : AC := .seq gP_reserved_c2 gP_reserved_c13
@[simp] theorem gP_reserved_c14_eq : aw PP gP_reserved_c14 K env H = aw PP gP_reserved_c2 (seqK PP gP_reserved_c13 K) env H := aw_seq gP_reserved_c2 gP_reserved_c13
def gP_reserved_c15 : AC := .reg [⟨some 2, none, .mov (.c (.bool true))⟩] [3, 4]
@[simp] theorem gP_reserved_c15_eq : aw PP gP_reserved_c15 K env H = awOps PP [⟨some 2, none, .mov (.c (.bool true))⟩] (regK K [3, 4]) (panK K) env H := aw_reg _ _
def gP_reserved_c16 : AC := .seq gP_reserved_c15 .ret
@[simp] theorem gP_reserved_c16_eq : aw PP gP_reserved_c16 K env H = aw PP gP_reserved_c15 (seqK PP .ret K) env H := aw_seq gP_reserved_c15 .ret
def gP_reserved_c17 : AC := .cond (.t 4) gP_reserved_c16 .skip
@[simp] theorem gP_reserved_c17_eq : aw PP gP_reserved_c17 K env H = condQ PP (Opd.ev env (.t 4)) gP_reserved_c16 .skip K env H := aw_cond _ gP_reserved_c16 .skip
def gP_reserved_c18 : AC := .seq gP_reserved_c14 gP_reserved_c17
@[simp] theorem gP_reserved_c18_eq : aw PP gP_reserved_c18 K env H = aw PP gP_reserved_c14 (seqK PP gP_reserved_c17 K) env H := aw_seq gP_reserved_c14 gP_reserved_c17
def gP_reserved_c19 : AC := .block 0 gP_reserved_c18
@[simp] theorem gP_reserved_c19_eq : aw PP gP_reserved_c19 K env H = aw PP gP_reserved_c18 (blockK 0 K) env H := aw_block _ gP_reserved_c18
def gP_reserved_c20 : AC := .seq gP_reserved_c1 gP_reserved_c19
@[simp] theorem gP_reserved_c20_eq : aw PP gP_reserved_c20 K env H = aw PP gP_reserved_c1 (seqK PP gP_reserved_c19 K) env H := aw_seq gP_reserved_c1 gP_reserved_c19
def gP_reserved_c21 : AC := .reg [⟨some 2, none, .mov (.c (.bool false))⟩] [3, 4]
@[simp] theorem gP_reserved_c21_eq : aw PP gP_reserved_c21 K env H = awOps PP [⟨some 2, none, .mov (.c (.bool false))⟩] (regK K [3, 4]) (panK K) env H := aw_reg _ _
def gP_reserved_c22 : AC := .seq gP_reserved_c21 .ret
@[simp] theorem gP_reserved_c22_eq : aw PP gP_reserved_c22 K env H = aw PP gP_reserved_c21 (seqK PP .ret K) env H := aw_seq gP_reserved_c21 .ret
def gP_reserved_c23 : AC := .seq gP_reserved_c20 gP_reserved_c22
@[simp] theorem gP_reserved_c23_eq : aw PP gP_reserved_c23 K env H = aw PP gP_reserved_c20 (seqK PP gP_reserved_c22 K) env H := aw_seq gP_reserved_c20 gP_reserved_c22
def gP_reserved_c24 : AC := .seq gP_reserved_c0 gP_reserved_c23
@[simp] theorem gP_reserved_c24_eq : aw PP gP_reserved_c24 K env H = aw PP gP_reserved_c0 (seqK PP gP_reserved_c23 K) env H := aw_seq gP_reserved_c0 gP_reserved_c23
def gP_reserved_ac : AC := gP_reserved_c24
@[simp] theorem gP_reserved_ac_eq : aw PP gP_reserved_ac K env H = aw PP gP_reserved_c24 K env H := Eq.trans rfl rfl
def gP_reserved_rs : List ARV := [.tmp 2]
abbrev gP_reserved_id : Nat := 75
theorem gP_reserved_comp : compF PP gP_reserved_kl gP_reserved_ow 1 Tryd.f75 = some (gP_reserved_ac, gP_reserved_rs) := by kernel_rfl
theorem gP_reserved_enter {args : List AV} {H : AHeap} {post : ARes → AHeap → Prop} (ha : args.length = 1) (h : aw PP gP_reserved_ac (retK gP_reserved_rs post) (argEnv 0 args) H) : ACalls PP gP_reserved_id args H post := .enterF Tryd.func75 PP_mix gP_reserved_comp ha h

/-! (*emendate.grammarparser.reader).level -/
def gR_level_kl : Nat → List Nat
  | 1 => [6, 7]
  | 2 => [1, 8, 9, 10, 11, 12]
  | 3 => [13]
  | 4 => [14, 15, 16, 17, 18, 19, 20, 21]
  | 5 => [0, 14, 22, 23]
  | 6 => [5, 24]
  | _ => []
def gR_level_ow : Nat → Nat → Bool := fun a b => (a == 2 && b == 3)
def gR_level_c0 : AC := .reg [⟨some 4, none, .alloc (.struct [.int (.i64) 0, .nils]) 51⟩] []
@[simp] theorem gR_level_c0_eq : aw PP gR_level_c0 K env H = awOps PP [⟨some 4, none, .alloc (.struct [.int (.i64) 0, .nils]) 51⟩] (regK K []) (panK K) env H := aw_reg _ _
def gR_level_c1 : AC := .reg [⟨some 6, none, .mov (.t 0)⟩, ⟨some 7, none, .call (.c (.fn (.func 74) [] [])) [.t 6]⟩] [6, 7]
@[simp] theorem gR_level_c1_eq : aw PP gR_level_c1 K env H = awOps PP [⟨some 6, none, .mov (.t 0)⟩, ⟨some 7, none, .call (.c (.fn (.func 74) [] [])) [.t 6]⟩] (regK K [6, 7]) (panK K) env H := aw_reg _ _
def gR_level_c2 : AC := .reg [⟨some 8, none, .mov (.t 1)⟩, ⟨some 9, none, .mov (.t 0)⟩, ⟨some 10, none, .call (.c (.fn (.func 50) [] [])) [.t 9]⟩, ⟨some 11, none, .bsl true 9 1 1 (.str []) [(0, .t 10)]⟩, ⟨some 12, none, .build [.int (.i64) 0, .nils] [(0, .t 8), (1, .t 11)]⟩, ⟨some 5, none, .alloc (.struct [.int (.i64) 0, .nils]) 51⟩, ⟨none, none, .st 2 (.t 5) (.t 12)⟩] [1, 8, 9, 10, 11, 12]
@[simp] theorem gR_level_c2_eq : aw PP gR_level_c2 K env H = awOps PP [⟨some 8, none, .mov (.t 1)⟩, ⟨some 9, none, .mov (.t 0)⟩, ⟨some 10, none, .call (.c (.fn (.func 50) [] [])) [.t 9]⟩, ⟨some 11, none, .bsl true 9 1 1 (.str []) [(0, .t 10)]⟩, ⟨some 12, none, .build [.int (.i64) 0, .nils] [(0, .t 8), (1, .t 11)]⟩, ⟨some 5, none, .alloc (.struct [.int (.i64) 0, .nils]) 51⟩, ⟨none, none, .st 2 (.t 5) (.t 12)⟩] (regK K [1, 8, 9, 10, 11, 12]) (panK K) env H := aw_reg _ _
def gR_level_c3 : AC := .reg [⟨some 13, none, .mov (.t 0)⟩, ⟨some 14, none, .call (.c (.fn (.func 87) [] [])) [.t 13]⟩] [13]
@[simp] theorem gR_level_c3_eq : aw PP gR_level_c3 K env H = awOps PP [⟨some 13, none, .mov (.t 0)⟩, ⟨some 14, none, .call (.c (.fn (.func 87) [] [])) [.t 13]⟩] (regK K [13]) (panK K) env H := aw_reg _ _
def gR_level_c4 : AC := .cond (.t 14) .skip (.exit 0)
@[simp] theorem gR_level_c4_eq : aw PP gR_level_c4 K env H = condQ PP (Opd.ev env (.t 14)) .skip (.exit 0) K env H := aw_cond _ .skip (.exit 0)
def gR_level_c5 : AC := .seq gR_level_c3 gR_level_c4
@[simp] theorem gR_level_c5_eq : aw PP gR_level_c5 K env H = aw PP gR_level_c3 (seqK PP gR_level_c4 K) env H := aw_seq gR_level_c3 gR_level_c4
def gR_level_c6_ops : List (AI × List Nat) := [(⟨some 15, none, .fa 1 1 (.t 5)⟩, []), (⟨some 16, none, .ld false 1 (.t 15)⟩, [0]), (⟨some 17, none, .mov (.t 0)⟩, []), (⟨some 18, none, .call (.c (.fn (.func 50) [] [])) [.t 17]⟩, [2]), (⟨some 19, none, .bsl false 9 1 1 (.str []) [(0, .t 18)]⟩, [3]), (⟨some 20, none, .app 9 1 16 (.t 16) (.t 19)⟩, [1, 4, 3]), (⟨some 21, none, .fa 1 1 (.t 5)⟩, [0, 1, 2, 3, 4, 5]), (⟨none, none, .st 1 (.t 21) (.t 20)⟩, [6, 5, 5, 0, 1, 2, 3, 4, 5])]
def gR_level_c6 : AC := .dreg gR_level_c6_ops [14, 15, 16, 17, 18, 19, 20, 21]
theorem gR_level_c6_ok : lexOK gR_level_c6_ops (fun i => [5, 7].contains i) = true := by kernel_rfl
theorem gR_level_c6_lex (h : awLex PP (fun i => [5, 7].contains i) (regK K [14, 15, 16, 17, 18, 19, 20, 21]) (panK K) [(0, ⟨some 15, none, .fa 1 1 (.t 5)⟩), (1, ⟨some 16, none, .ld false 1 (.t 15)⟩), (2, ⟨some 17, none, .mov (.t 0)⟩), (3, ⟨some 18, none, .call (.c (.fn (.func 50) [] [])) [.t 17]⟩), (4, ⟨some 19, none, .bsl false 9 1 1 (.str []) [(0, .t 18)]⟩), (5, ⟨some 20, none, .app 9 1 16 (.t 16) (.t 19)⟩), (6, ⟨some 21, none, .fa 1 1 (.t 5)⟩), (7, ⟨none, none, .st 1 (.t 21) (.t 20)⟩)] env H) : aw PP gR_level_c6 K env H := aw_dreg_lex _ gR_level_c6_ok h
theorem gR_level_c6_okF : lexOKF gR_level_c6_ops 5 (fun i => [3, 5, 7].contains i) = true := by kernel_rfl
theorem gR_level_c6_lexF (B : List Nat) (h : awLexF PP 5 (fun i => [3, 5, 7].contains i) B H (regK K [14, 15, 16, 17, 18, 19, 20, 21]) (panK K) [(0, ⟨some 15, none, .fa 1 1 (.t 5)⟩), (1, ⟨some 16, none, .ld false 1 (.t 15)⟩), (2, ⟨some 17, none, .mov (.t 0)⟩), (3, ⟨some 18, none, .call (.c (.fn (.func 50) [] [])) [.t 17]⟩), (4, ⟨some 19, none, .bsl false 9 1 1 (.str []) [(0, .t 18)]⟩), (5, ⟨some 20, none, .app 9 1 16 (.t 16) (.t 19)⟩), (6, ⟨some 21, none, .fa 1 1 (.t 5)⟩), (7, ⟨none, none, .st 1 (.t 21) (.t 20)⟩)] env H) : aw PP gR_level_c6 K env H := aw_dreg_lexF _ _ B gR_level_c6_okF h
def gR_level_c7 : AC := .block 1 gR_level_c6
@[simp] theorem gR_level_c7_eq : aw PP gR_level_c7 K env H = aw PP gR_level_c6 (blockK 1 K) env H := aw_block _ gR_level_c6
def gR_level_c8 : AC := .seq gR_level_c5 gR_level_c7
@[simp] theorem gR_level_c8_eq : aw PP gR_level_c8 K env H = aw PP gR_level_c5 (seqK PP gR_level_c7 K) env H := aw_seq gR_level_c5 gR_level_c7
def gR_level_c9 : AC := .loop gR_level_c8
def gR_level_c10 : AC := .block 0 gR_level_c9
@[simp] theorem gR_level_c10_eq : aw PP gR_level_c10 K env H = aw PP gR_level_c9 (blockK 0 K) env H := aw_block _ gR_level_c9
def gR_level_c11 : AC := .reg [⟨some 22, none, .mov (.t 0)⟩, ⟨some 23, none, .call (.c (.fn (.func 49) [] [])) [.t 22, .c (.str [59])]⟩] [0, 14, 22, 23]
@[simp] theorem gR_level_c11_eq : aw PP gR_level_c11 K env H = awOps PP [⟨some 22, none, .mov (.t 0)⟩, ⟨some 23, none, .call (.c (.fn (.func 49) [] [])) [.t 22, .c (.str [59])]⟩] (regK K [0, 14, 22, 23]) (panK K) env H := aw_reg _ _
def gR_level_c12 : AC := .reg [⟨some 24, none, .ld true 2 (.t 5)⟩, ⟨none, none, .st 2 (.t 4) (.t 24)⟩] [5, 24]
@[simp] theorem gR_level_c12_eq : aw PP gR_level_c12 K env H = awOps PP [⟨some 24, none, .ld true 2 (.t 5)⟩, ⟨none, none, .st 2 (.t 4) (.t 24)⟩] (regK K [5, 24]) (panK K) env H := aw_reg _ _
def gR_level_c13 : AC := .seq gR_level_c12 .ret
@[simp] theorem gR_level_c13_eq : aw PP gR_level_c13 K env H = aw PP gR_level_c12 (seqK PP .ret K) env H := aw_seq gR_level_c12 .ret
def gR_level_c14 : AC := .seq gR_level_c11 gR_level_c13
@[simp] theorem gR_level_c14_eq : aw PP gR_level_c14 K env H = aw PP gR_level_c11 (seqK PP gR_level_c13 K) env H := aw_seq gR_level_c11 gR_level_c13
def gR_level_c15 : AC := .seq gR_level_c10 gR_level_c14
@[simp] theorem gR_level_c15_eq : aw PP gR_level_c15 K env H = aw PP gR_level_c10 (seqK PP gR_level_c14 K) env H := aw_seq gR_level_c10 gR_level_c14
def gR_level_c16 : AC := .seq gR_level_c2 gR_level_c15
@[simp] theorem gR_level_c16_eq : aw PP gR_level_c16 K env H = aw PP gR_level_c2 (seqK PP gR_level_c15 K) env H := aw_seq gR_level_c2 gR_level_c15
def gR_level_c17 : AC := .seq gR_level_c1 gR_level_c16
@[simp] theorem gR_level_c17_eq : aw PP gR_level_c17 K env H = aw PP gR_level_c1 (seqK PP gR_level_c16 K) env H := aw_seq gR_level_c1 gR_level_c16
def gR_level_c18 : AC := .seq gR_level_c0 gR_level_c17
@[simp] theorem gR_level_c18_eq : aw PP gR_level_c18 K env H = aw PP gR_level_c0 (seqK PP gR_level_c17 K) env H := aw_seq gR_level_c0 gR_level_c17
def gR_level_ac : AC := gR_level_c18
@[simp] theorem gR_level_ac_eq : aw PP gR_level_ac K env H = aw PP gR_level_c18 K env H := Eq.trans rfl rfl
def gR_level_rs : List ARV := [.cell 4 true 2]
abbrev gR_level_id : Nat := 76
theorem gR_level_comp : compF PP gR_level_kl gR_level_ow 2 Tryd.f76 = some (gR_level_ac, gR_level_rs) := by kernel_rfl
theorem gR_level_enter {args : List AV} {H : AHeap} {post : ARes → AHeap → Prop} (ha : args.length = 2) (h : aw PP gR_level_ac (retK gR_level_rs post) (argEnv 0 args) H) : ACalls PP gR_level_id args H post := .enterF Tryd.func76 PP_mix gR_level_comp ha h

/-! (*emendate.grammarparser.reader).alternative -/
def gR_al_kl : Nat → List Nat
  | 1 => [4, 5, 6]
  | 2 => [7, 8, 9]
  | 3 => [10, 11, 12]
  | 4 => [13, 14, 15]
  | 5 => [16, 17, 18]
  | 6 => [0, 16, 19, 20, 21, 22]
  | 7 => [0, 3, 10, 23]
  | _ => []
def gR_al_ow : Nat → Nat → Bool := fun _ _ => false
def gR_al_c0 : AC := .reg [⟨some 2, none, .alloc (.struct [.struct [.int (.i64) 0, .str [], .nils], .int (.i64) 0]) 38⟩] []
@[simp] theorem gR_al_c0_eq : aw PP gR_al_c0 K env H = awOps PP [⟨some 2, none, .alloc (.struct [.struct [.int (.i64) 0, .str [], .nils], .int (.i64) 0]) 38⟩] (regK K []) (panK K) env H := aw_reg _ _
def gR_al_c1 : AC := .reg [⟨some 4, none, .mov (.t 0)⟩, ⟨some 5, none, .call (.c (.fn (.func 88) [] [])) [.t 4]⟩, ⟨some 6, none, .build [.struct [.int (.i64) 0, .str [], .nils], .int (.i64) 0] [(0, .t 5)]⟩, ⟨some 3, none, .alloc (.struct [.struct [.int (.i64) 0, .str [], .nils], .int (.i64) 0]) 38⟩, ⟨none, none, .st 4 (.t 3) (.t 6)⟩] [4, 5, 6]
@[simp] theorem gR_al_c1_eq : aw PP gR_al_c1 K env H = awOps PP [⟨some 4, none, .mov (.t 0)⟩, ⟨some 5, none, .call (.c (.fn (.func 88) [] [])) [.t 4]⟩, ⟨some 6, none, .build [.struct [.int (.i64) 0, .str [], .nils], .int (.i64) 0] [(0, .t 5)]⟩, ⟨some 3, none, .alloc (.struct [.struct [.int (.i64) 0, .str [], .nils], .int (.i64) 0]) 38⟩, ⟨none, none, .st 4 (.t 3) (.t 6)⟩] (regK K [4, 5, 6]) (panK K) env H := aw_reg _ _
def gR_al_c2 : AC := .reg [⟨some 7, none, .mov (.t 0)⟩, ⟨some 8, none, .call (.c (.fn (.func 72) [] [])) [.t 7]⟩, ⟨some 9, none, .fld 1 1 1 false (.t 8)⟩, ⟨some 10, none, .bin (.eql) (.t 9) (.c (.str [112, 114, 105, 99, 101]))⟩] [7, 8, 9]
@[simp] theorem gR_al_c2_eq : aw PP gR_al_c2 K env H = awOps PP [⟨some 7, none, .mov (.t 0)⟩, ⟨some 8, none, .call (.c (.fn (.func 72) [] [])) [.t 7]⟩, ⟨some 9, none, .fld 1 1 1 false (.t 8)⟩, ⟨some 10, none, .bin (.eql) (.t 9) (.c (.str [112, 114, 105, 99, 101]))⟩] (regK K [7, 8, 9]) (panK K) env H := aw_reg _ _
def gR_al_c3 : AC := .reg [⟨some 11, none, .mov (.t 0)⟩, ⟨some 12, none, .call (.c (.fn (.func 74) [] [])) [.t 11]⟩] [10, 11, 12]
@[simp] theorem gR_al_c3_eq : aw PP gR_al_c3 K env H = awOps PP [⟨some 11, none, .mov (.t 0)⟩, ⟨some 12, none, .call (.c (.fn (.func 74) [] [])) [.t 11]⟩] (regK K [10, 11, 12]) (panK K) env H := aw_reg _ _
def gR_al_c4 : AC := .reg [⟨some 13, none, .mov (.t 0)⟩, ⟨some 14, none, .call (.c (.fn (.func 72) [] [])) [.t 13]⟩, ⟨some 15, none, .fld 3 3 1 false (.t 14)⟩, ⟨some 16, none, .bin (.lss) (.t 15) (.c (.int (.i64) 0))⟩] [13, 14, 15]
@[simp] theorem gR_al_c4_eq : aw PP gR_al_c4 K env H = awOps PP [⟨some 13, none, .mov (.t 0)⟩, ⟨some 14, none, .call (.c (.fn (.func 72) [] [])) [.t 13]⟩, ⟨some 15, none, .fld 3 3 1 false (.t 14)⟩, ⟨some 16, none, .bin (.lss) (.t 15) (.c (.int (.i64) 0))⟩] (regK K [13, 14, 15]) (panK K) env H := aw_reg _ _
def gR_al_c5 : AC := .reg [⟨some 17, none, .mov (.t 0)⟩, ⟨some 18, none, .call (.c (.fn (.func 73) [] [])) [.t 17]⟩] [16, 17, 18]
@[simp] theorem gR_al_c5_eq : aw PP gR_al_c5 K env H = awOps PP [⟨some 17, none, .mov (.t 0)⟩, ⟨some 18, none, .call (.c (.fn (.func 73) [] [])) [.t 17]⟩] (regK K [16, 17, 18]) (panK K) env H := aw_reg _ _
def gR_al_c6 : AC := .cond (.t 16) gR_al_c5 .skip
@[simp] theorem gR_al_c6_eq : aw PP gR_al_c6 K env H = condQ PP (Opd.ev env (.t 16)) gR_al_c5 .skip K env H := aw_cond _ gR_al_c5 .skip
def gR_al_c7 : AC := .seq gR_al_c4 gR_al_c6
@[simp] theorem gR_al_c7_eq : aw PP gR_al_c7 K env H = aw PP gR_al_c4 (seqK PP gR_al_c6 K) env H := aw_seq gR_al_c4 gR_al_c6
def gR_al_c8 : AC := .reg [⟨some 19, none, .mov (.t 0)⟩, ⟨some 20, none, .call (.c (.fn (.func 74) [] [])) [.t 19]⟩, ⟨some 21, none, .fld 3 3 1 false (.t 20)⟩, ⟨some 22, none, .fa 1 3 (.t 3)⟩, ⟨none, none, .st 1 (.t 22) (.t 21)⟩] [0, 16, 19, 20, 21, 22]
@[simp] theorem gR_al_c8_eq : aw PP gR_al_c8 K env H = awOps PP [⟨some 19, none, .mov (.t 0)⟩, ⟨some 20, none, .call (.c (.fn (.func 74) [] [])) [.t 19]⟩, ⟨some 21, none, .fld 3 3 1 false (.t 20)⟩, ⟨some 22, none, .fa 1 3 (.t 3)⟩, ⟨none, none, .st 1 (.t 22) (.t 21)⟩] (regK K [0, 16, 19, 20, 21, 22]) (panK K) env H := aw_reg _ _
def gR_al_c9 : AC := .seq gR_al_c7 gR_al_c8
@[simp] theorem gR_al_c9_eq : aw PP gR_al_c9 K env H = aw PP gR_al_c7 (seqK PP gR_al_c8 K) env H := aw_seq gR_al_c7 gR_al_c8
def gR_al_c10 : AC := .seq gR_al_c3 gR_al_c9
@[simp] theorem gR_al_c10_eq : aw PP gR_al_c10 K env H = aw PP gR_al_c3 (seqK PP gR_al_c9 K) env H := aw_seq gR_al_c3 gR_al_c9
def gR_al_c11 : AC := .cond (.t 10) gR_al_c10 .skip
@[simp] theorem gR_al_c11_eq : aw PP gR_al_c11 K env H = condQ PP (Opd.ev env (.t 10)) gR_al_c10 .skip K env H := aw_cond _ gR_al_c10 .skip
def gR_al_c12 : AC := .seq gR_al_c2 gR_al_c11
@[simp] theorem gR_al_c12_eq : aw PP gR_al_c12 K env H = aw PP gR_al_c2 (seqK PP gR_al_c11 K) env H := aw_seq gR_al_c2 gR_al_c11
def gR_al_c13 : AC := .reg [⟨some 23, none, .ld true 4 (.t 3)⟩, ⟨none, none, .st 4 (.t 2) (.t 23)⟩] [0, 3, 10, 23]
@[simp] theorem gR_al_c13_eq : aw PP gR_al_c13 K env H = awOps PP [⟨some 23, none, .ld true 4 (.t 3)⟩, ⟨none, none, .st 4 (.t 2) (.t 23)⟩] (regK K [0, 3, 10, 23]) (panK K) env H := aw_reg _ _
def gR_al_c14 : AC := .seq gR_al_c13 .ret
@[simp] theorem gR_al_c14_eq : aw PP gR_al_c14 K env H = aw PP gR_al_c13 (seqK PP .ret K) env H := aw_seq gR_al_c13 .ret
def gR_al_c15 : AC := .seq gR_al_c12 gR_al_c14
@[simp] theorem gR_al_c15_eq : aw PP gR_al_c15 K env H = aw PP gR_al_c12 (seqK PP gR_al_c14 K) env H := aw_seq gR_al_c12 gR_al_c14
def gR_al_c16 : AC := .seq gR_al_c1 gR_al_c15
@[simp] theorem gR_al_c16_eq : aw PP gR_al_c16 K env H = aw PP gR_al_c1 (seqK PP gR_al_c15 K) env H := aw_seq gR_al_c1 gR_al_c15
def gR_al_c17 : AC := .seq gR_al_c0 gR_al_c16
@[simp] theorem gR_al_c17_eq : aw PP gR_al_c17 K env H = aw PP gR_al_c0 (seqK PP gR_al_c16 K) env H := aw_seq gR_al_c0 gR_al_c16
def gR_al_ac : AC := gR_al_c17
@[simp] theorem gR_al_ac_eq : aw PP gR_al_ac K env H = aw PP gR_al_c17 K env H := Eq.trans rfl rfl
def gR_al_rs : List ARV := [.cell 2 true 4]
abbrev gR_al_id : Nat := 77
theorem gR_al_comp : compF PP gR_al_kl gR_al_ow 1 Tryd.f77 = some (gR_al_ac, gR_al_rs) := by kernel_rfl
theorem gR_al_enter {args : List AV} {H : AHeap} {post : ARes → AHeap → Prop} (ha : args.length = 1) (h : aw PP gR_al_ac (retK gR_al_rs post) (argEnv 0 args) H) : ACalls PP gR_al_id args H post := .enterF Tryd.func77 PP_mix gR_al_comp ha h

/-! slices.IndexFunc[[]emendate.api.GAlternative,emendate.api.GAlternative] -/
def sI_GA_kl : Nat → List Nat
  | 0 => [4]
  | 1 => [6]
  | 3 => [9, 10]
  | 4 => [11, 12, 13, 14, 15]
  | 5 => [0, 1, 5, 7, 8, 16, 17]
  | 6 => [5, 16, 18]
  | 7 => [0, 1, 7, 8, 9]
  | _ => []
def sI_GA_ow : Nat → Nat → Bool := fun _ _ => false
def sI_GA_c0 : AC := .reg [⟨some 4, none, .mov (.c (.int (.i64) 0))⟩] [4]
@[simp] theorem sI_GA_c0_eq : aw PP sI_GA_c0 K env H = awOps PP [⟨some 4, none, .mov (.c (.int (.i64) 0))⟩] (regK K [4]) (panK K) env H := aw_reg _ _
def sI_GA_c1 : AC := .reg [⟨some 6, none, .mov (.t 0)⟩, ⟨some 7, none, .lenl (.t 6)⟩, ⟨some 8, none, .mov (.c (.int (.i64) 0))⟩] [6]
@[simp] theorem sI_GA_c1_eq : aw PP sI_GA_c1 K env H = awOps PP [⟨some 6, none, .mov (.t 0)⟩, ⟨some 7, none, .lenl (.t 6)⟩, ⟨some 8, none, .mov (.c (.int (.i64) 0))⟩] (regK K [6]) (panK K) env H := aw_reg _ _
def sI_GA_c2 : AC := .reg [⟨some 9, none, .bin (.lss) (.t 8) (.t 7)⟩] []
@[simp] theorem sI_GA_c2_eq : aw PP sI_GA_c2 K env H = awOps PP [⟨some 9, none, .bin (.lss) (.t 8) (.t 7)⟩] (regK K []) (panK K) env H := aw_reg _ _
def sI_GA_c3 : AC := .cond (.t 9) .skip (.exit 0)
@[simp] theorem sI_GA_c3_eq : aw PP sI_GA_c3 K env H = condQ PP (Opd.ev env (.t 9)) .skip (.exit 0) K env H := aw_cond _ .skip (.exit 0)
def sI_GA_c4 : AC := .reg [⟨some 10, none, .mov (.t 8)⟩, ⟨some 5, none, .mov (.t 10)⟩] [9, 10]
@[simp] theorem sI_GA_c4_eq : aw PP sI_GA_c4 K env H = awOps PP [⟨some 10, none, .mov (.t 8)⟩, ⟨some 5, none, .mov (.t 10)⟩] (regK K [9, 10]) (panK K) env H := aw_reg _ _
def sI_GA_c5 : AC := .reg [⟨some 11, none, .mov (.t 1)⟩, ⟨some 12, none, .mov (.t 0)⟩, ⟨some 13, none, .mov (.t 5)⟩, ⟨some 14, none, .ixa 4 (.t 12) (.t 13)⟩, ⟨some 15, none, .ld true 4 (.t 14)⟩, ⟨some 16, none, .call (.t 11) [.t 15]⟩] [11, 12, 13, 14, 15]
@[simp] theorem sI_GA_c5_eq : aw PP sI_GA_c5 K env H = awOps PP [⟨some 11, none, .mov (.t 1)⟩, ⟨some 12, none, .mov (.t 0)⟩, ⟨some 13, none, .mov (.t 5)⟩, ⟨some 14, none, .ixa 4 (.t 12) (.t 13)⟩, ⟨some 15, none, .ld true 4 (.t 14)⟩, ⟨some 16, none, .call (.t 11) [.t 15]⟩] (regK K [11, 12, 13, 14, 15]) (panK K) env H := aw_reg _ _
def sI_GA_c6 : AC := .reg [⟨some 17, none, .mov (.t 5)⟩, ⟨some 4, none, .mov (.t 17)⟩] [0, 1, 5, 7, 8, 16, 17]
@[simp] theorem sI_GA_c6_eq : aw PP sI_GA_c6 K env H = awOps PP [⟨some 17, none, .mov (.t 5)⟩, ⟨some 4, none, .mov (.t 17)⟩] (regK K [0, 1, 5, 7, 8, 16, 17]) (panK K) env H := aw_reg _ _
def sI_GA_c7 : AC := .seq sI_GA_c6 .ret
@[simp] theorem sI_GA_c7_eq : aw PP sI_GA_c7 K env H = aw PP sI_GA_c6 (seqK PP .ret K) env H := aw_seq sI_GA_c6 .ret
def sI_GA_c8 : AC := .cond (.t 16) sI_GA_c7 .skip
@[simp] theorem sI_GA_c8_eq : aw PP sI_GA_c8 K env H = condQ PP (Opd.ev env (.t 16)) sI_GA_c7 .skip K env H := aw_cond _ sI_GA_c7 .skip
def sI_GA_c9 : AC := .seq sI_GA_c5 sI_GA_c8
@[simp] theorem sI_GA_c9_eq : aw PP sI_GA_c9 K env H = aw PP sI_GA_c5 (seqK PP sI_GA_c8 K) env H := aw_seq sI_GA_c5 sI_GA_c8
def sI_GA_c10 : AC := .seq sI_GA_c4 sI_GA_c9
@[simp] theorem sI_GA_c10_eq : aw PP sI_GA_c10 K env H = aw PP sI_GA_c4 (seqK PP sI_GA_c9 K) env H := aw_seq sI_GA_c4 sI_GA_c9
def sI_GA_c11 : AC := .block 1 sI_GA_c10
@[simp] theorem sI_GA_c11_eq : aw PP sI_GA_c11 K env H = aw PP sI_GA_c10 (blockK 1 K) env H := aw_block _ sI_GA_c10
def sI_GA_c12 : AC := .reg [⟨some 18, none, .bin (.add) (.t 8) (.c (.int (.i64) 1))⟩, ⟨some 8, none, .mov (.t 18)⟩] [5, 16, 18]
@[simp] theorem sI_GA_c12_eq : aw PP sI_GA_c12 K env H = awOps PP [⟨some 18, none, .bin (.add) (.t 8) (.c (.int (.i64) 1))⟩, ⟨some 8, none, .mov (.t 18)⟩] (regK K [5, 16, 18]) (panK K) env H := aw_reg _ _
def sI_GA_c13 : AC := .seq sI_GA_c11 sI_GA_c12
@[simp] theorem sI_GA_c13_eq : aw PP sI_GA_c13 K env H = aw PP sI_GA_c11 (seqK PP sI_GA_c12 K) env H := aw_seq sI_GA_c11 sI_GA_c12
def sI_GA_c14 : AC := .seq sI_GA_c3 sI_GA_c13
@[simp] theorem sI_GA_c14_eq : aw PP sI_GA_c14 K env H = aw PP sI_GA_c3 (seqK PP sI_GA_c13 K) env H := aw_seq sI_GA_c3 sI_GA_c13
def sI_GA_c15 : AC := .seq sI_GA_c2 sI_GA_c14
@[simp] theorem sI_GA_c15_eq : aw PP sI_GA_c15 K env H = aw PP sI_GA_c2 (seqK PP sI_GA_c14 K) env H := aw_seq sI_GA_c2 sI_GA_c14
def sI_GA_c16 : AC := .loop sI_GA_c15
def sI_GA_c17 : AC := .block 0 sI_GA_c16
@[simp] theorem sI_GA_c17_eq : aw PP sI_GA_c17 K env H = aw PP sI_GA_c16 (blockK 0 K) env H := aw_block _ sI_GA_c16
def sI_GA_c18 : AC := .seq sI_GA_c1 sI_GA_c17
@[simp] theorem sI_GA_c18_eq : aw PP sI_GA_c18 K env H = aw PP sI_GA_c1 (seqK PP sI_GA_c17 K) env H := aw_seq sI_GA_c1 sI_GA_c17
def sI_GA_c19 : AC := .reg [⟨some 4, none, .mov (.c (.int (.i64) (-1)))⟩] [0, 1, 7, 8, 9]
@[simp] theorem sI_GA_c19_eq : aw PP sI_GA_c19 K env H = awOps PP [⟨some 4, none, .mov (.c (.int (.i64) (-1)))⟩] (regK K [0, 1, 7, 8, 9]) (panK K) env H := aw_reg _ _
def sI_GA_c20 : AC := .seq sI_GA_c19 .ret
@[simp] theorem sI_GA_c20_eq : aw PP sI_GA_c20 K env H = aw PP sI_GA_c19 (seqK PP .ret K) env H := aw_seq sI_GA_c19 .ret
def sI_GA_c21 : AC := .seq sI_GA_c18 sI_GA_c20
@[simp] theorem sI_GA_c21_eq : aw PP sI_GA_c21 K env H = aw PP sI_GA_c18 (seqK PP sI_GA_c20 K) env H := aw_seq sI_GA_c18 sI_GA_c20
def sI_GA_c22 : AC := .seq sI_GA_c0 sI_GA_c21
@[simp] theorem sI_GA_c22_eq : aw PP sI_GA_c22 K env H = aw PP sI_GA_c0 (seqK PP sI_GA_c21 K) env H := aw_seq sI_GA_c0 sI_GA_c21
def sI_GA_ac : AC := sI_GA_c22
@[simp] theorem sI_GA_ac_eq : aw PP sI_GA_ac K env H = aw PP sI_GA_c22 K env H := Eq.trans rfl rfl
def sI_GA_rs : List ARV := [.tmp 4]
abbrev sI_GA_id : Nat := 78
theorem sI_GA_comp : compF PP sI_GA_kl sI_GA_ow 2 Tryd.f78 = some (sI_GA_ac, sI_GA_rs) := by kernel_rfl
theorem sI_GA_enter {args : List AV} {H : AHeap} {post : ARes → AHeap → Prop} (ha : args.length = 2) (h : aw PP sI_GA_ac (retK sI_GA_rs post) (argEnv 0 args) H) : ACalls PP sI_GA_id args H post := .enterF Tryd.func78 PP_mix sI_GA_comp ha h

/-! slices.ContainsFunc[[]emendate.api.GExpr,emendate.api.GExpr] -/
def sC_GExpr_kl : Nat → List Nat
  | 0 => [4]
  | 1 => [0, 1, 5, 6, 7, 8]
  | _ => []
def sC_GExpr_ow : Nat → Nat → Bool := fun _ _ => false
def sC_GExpr_c0 : AC := .reg [⟨some 4, none, .mov (.c (.bool false))⟩] [4]
@[simp] theorem sC_GExpr_c0_eq : aw PP sC_GExpr_c0 K env H = awOps PP [⟨some 4, none, .mov (.c (.bool false))⟩] (regK K [4]) (panK K) env H := aw_reg _ _
def sC_GExpr_c1 : AC := .reg [⟨some 5, none, .mov (.t 0)⟩, ⟨some 6, none, .mov (.t 1)⟩, ⟨some 7, none, .call (.c (.fn (.func 89) [] [])) [.t 5, .t 6]⟩, ⟨some 8, none, .bin (.geq) (.t 7) (.c (.int (.i64) 0))⟩, ⟨some 4, none, .mov (.t 8)⟩] [0, 1, 5, 6, 7, 8]
@[simp] theorem sC_GExpr_c1_eq : aw PP sC_GExpr_c1 K env H = awOps PP [⟨some 5, none, .mov (.t 0)⟩, ⟨some 6, none, .mov (.t 1)⟩, ⟨some 7, none, .call (.c (.fn (.func 89) [] [])) [.t 5, .t 6]⟩, ⟨some 8, none, .bin (.geq) (.t 7) (.c (.int (.i64) 0))⟩, ⟨some 4, none, .mov (.t 8)⟩] (regK K [0, 1, 5, 6, 7, 8]) (panK K) env H := aw_reg _ _
def sC_GExpr_c2 : AC := .seq sC_GExpr_c1 .ret
@[simp] theorem sC_GExpr_c2_eq : aw PP sC_GExpr_c2 K env H = aw PP sC_GExpr_c1 (seqK PP .ret K) env H := aw_seq sC_GExpr_c1 .ret
def sC_GExpr_c3 : AC := .seq sC_GExpr_c0 sC_GExpr_c2
@[simp] theorem sC_GExpr_c3_eq : aw PP sC_GExpr_c3 K env H = aw PP sC_GExpr_c0 (seqK PP sC_GExpr_c2 K) env H := aw_seq sC_GExpr_c0 sC_GExpr_c2
def sC_GExpr_ac : AC := sC_GExpr_c3
@[simp] theorem sC_GExpr_ac_eq : aw PP sC_GExpr_ac K env H = aw PP sC_GExpr_c3 K env H := Eq.trans rfl rfl
def sC_GExpr_rs : List ARV := [.tmp 4]
abbrev sC_GExpr_id : Nat := 79
theorem sC_GExpr_comp : compF PP sC_GExpr_kl sC_GExpr_ow 2 Tryd.f79 = some (sC_GExpr_ac, sC_GExpr_rs) := by kernel_rfl
theorem sC_GExpr_enter {args : List AV} {H : AHeap} {post : ARes → AHeap → Prop} (ha : args.length = 2) (h : aw PP sC_GExpr_ac (retK sC_GExpr_rs post) (argEnv 0 args) H) : ACalls PP sC_GExpr_id args H post := .enterF Tryd.func79 PP_mix sC_GExpr_comp ha h

end Go.Av
