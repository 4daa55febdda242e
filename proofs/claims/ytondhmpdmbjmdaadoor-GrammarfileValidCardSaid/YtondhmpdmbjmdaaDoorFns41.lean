/- Functions of the given program, compiled to the own form by program. -/
import Derived.Test.YtondhmpdmbjmdaaDoorProg
import Derived.KernelRfl
import Derived.Test.YtondhmpdmbjmdaaDoorAvF
import Derived.Test.YtondhmpdmbjmdaaDoorFns30
set_option linter.unusedVariables false
set_option linter.unusedSimpArgs false
namespace Go.Av
open Go Go.Proofs
/-! (*strings.Builder).WriteByte -/
def strings_Builder_WriteByte_kl : Nat → List Nat
  | 0 => [4]
  | 1 => [5, 6]
  | 2 => [0, 1, 7, 8, 9, 10, 11, 12, 13, 14, 15, 16]
  | _ => []
def strings_Builder_WriteByte_ow : Nat → Nat → Bool := fun _ _ => false
def strings_Builder_WriteByte_c0 : AC := .reg [⟨some 4, none, .mov (.c (.nili))⟩] [4]
@[simp] theorem strings_Builder_WriteByte_c0_eq {K : AK} {env : Env} {H : AHeap} : aw PP strings_Builder_WriteByte_c0 K env H = awOps PP [⟨some 4, none, .mov (.c (.nili))⟩] (regK K [4]) (panK K) env H := aw_reg _ _
def strings_Builder_WriteByte_c1 : AC := .reg [⟨some 5, none, .mov (.t 0)⟩, ⟨some 6, none, .call (.c (.fn (.func 59) [] [])) [.t 5]⟩] [5, 6]
@[simp] theorem strings_Builder_WriteByte_c1_eq {K : AK} {env : Env} {H : AHeap} : aw PP strings_Builder_WriteByte_c1 K env H = awOps PP [⟨some 5, none, .mov (.t 0)⟩, ⟨some 6, none, .call (.c (.fn (.func 59) [] [])) [.t 5]⟩] (regK K [5, 6]) (panK K) env H := aw_reg _ _
def strings_Builder_WriteByte_c2 : AC := .reg [⟨some 7, none, .mov (.t 0)⟩, ⟨some 8, none, .mov (.t 0)⟩, ⟨some 9, none, .nilc (.t 8)⟩, ⟨some 10, none, .fa 1 1 (.t 9)⟩, ⟨some 11, none, .ld false 1 (.t 10)⟩, ⟨some 12, none, .mov (.t 1)⟩, ⟨some 13, none, .bsl false 5 1 1 (.int (.u8) 0) [(0, .t 12)]⟩, ⟨some 14, none, .app 5 1 1 (.t 11) (.t 13)⟩, ⟨some 15, none, .nilc (.t 7)⟩, ⟨some 16, none, .fa 1 1 (.t 15)⟩, ⟨none, none, .st 1 (.t 16) (.t 14)⟩] [0, 1, 7, 8, 9, 10, 11, 12, 13, 14, 15, 16]
@[simp] theorem strings_Builder_WriteByte_c2_eq {K : AK} {env : Env} {H : AHeap} : aw PP strings_Builder_WriteByte_c2 K env H = awOps PP [⟨some 7, none, .mov (.t 0)⟩, ⟨some 8, none, .mov (.t 0)⟩, ⟨some 9, none, .nilc (.t 8)⟩, ⟨some 10, none, .fa 1 1 (.t 9)⟩, ⟨some 11, none, .ld false 1 (.t 10)⟩, ⟨some 12, none, .mov (.t 1)⟩, ⟨some 13, none, .bsl false 5 1 1 (.int (.u8) 0) [(0, .t 12)]⟩, ⟨some 14, none, .app 5 1 1 (.t 11) (.t 13)⟩, ⟨some 15, none, .nilc (.t 7)⟩, ⟨some 16, none, .fa 1 1 (.t 15)⟩, ⟨none, none, .st 1 (.t 16) (.t 14)⟩] (regK K [0, 1, 7, 8, 9, 10, 11, 12, 13, 14, 15, 16]) (panK K) env H := aw_reg _ _
def strings_Builder_WriteByte_c3 : AC := .reg [⟨some 4, none, .mov (.c (.nili))⟩] []
@[simp] theorem strings_Builder_WriteByte_c3_eq {K : AK} {env : Env} {H : AHeap} : aw PP strings_Builder_WriteByte_c3 K env H = awOps PP [⟨some 4, none, .mov (.c (.nili))⟩] (regK K []) (panK K) env H := aw_reg _ _
def strings_Builder_WriteByte_c4 : AC := .seq strings_Builder_WriteByte_c3 .ret
@[simp] theorem strings_Builder_WriteByte_c4_eq {K : AK} {env : Env} {H : AHeap} : aw PP strings_Builder_WriteByte_c4 K env H = aw PP strings_Builder_WriteByte_c3 (seqK PP .ret K) env H := aw_seq strings_Builder_WriteByte_c3 .ret
def strings_Builder_WriteByte_c5 : AC := .seq strings_Builder_WriteByte_c2 strings_Builder_WriteByte_c4
@[simp] theorem strings_Builder_WriteByte_c5_eq {K : AK} {env : Env} {H : AHeap} : aw PP strings_Builder_WriteByte_c5 K env H = aw PP strings_Builder_WriteByte_c2 (seqK PP strings_Builder_WriteByte_c4 K) env H := aw_seq strings_Builder_WriteByte_c2 strings_Builder_WriteByte_c4
def strings_Builder_WriteByte_c6 : AC := .seq strings_Builder_WriteByte_c1 strings_Builder_WriteByte_c5
@[simp] theorem strings_Builder_WriteByte_c6_eq {K : AK} {env : Env} {H : AHeap} : aw PP strings_Builder_WriteByte_c6 K env H = aw PP strings_Builder_WriteByte_c1 (seqK PP strings_Builder_WriteByte_c5 K) env H := aw_seq strings_Builder_WriteByte_c1 strings_Builder_WriteByte_c5
def strings_Builder_WriteByte_c7 : AC := .seq strings_Builder_WriteByte_c0 strings_Builder_WriteByte_c6
@[simp] theorem strings_Builder_WriteByte_c7_eq {K : AK} {env : Env} {H : AHeap} : aw PP strings_Builder_WriteByte_c7 K env H = aw PP strings_Builder_WriteByte_c0 (seqK PP strings_Builder_WriteByte_c6 K) env H := aw_seq strings_Builder_WriteByte_c0 strings_Builder_WriteByte_c6
def strings_Builder_WriteByte_ac : AC := strings_Builder_WriteByte_c7
@[simp] theorem strings_Builder_WriteByte_ac_eq {K : AK} {env : Env} {H : AHeap} : aw PP strings_Builder_WriteByte_ac K env H = aw PP strings_Builder_WriteByte_c7 K env H := Eq.trans rfl rfl
def strings_Builder_WriteByte_rs : List ARV := [.tmp 4]
abbrev strings_Builder_WriteByte_id : Nat := 61
theorem strings_Builder_WriteByte_comp : compF PP strings_Builder_WriteByte_kl strings_Builder_WriteByte_ow 2 Tryd.f61 = some (strings_Builder_WriteByte_ac, strings_Builder_WriteByte_rs) := by kernel_rfl
theorem strings_Builder_WriteByte_enter {args : List AV} {H : AHeap} {post : ARes → AHeap → Prop} (ha : args.length = 2) (h : aw PP strings_Builder_WriteByte_ac (retK strings_Builder_WriteByte_rs post) (argEnv 0 args) H) : ACalls PP strings_Builder_WriteByte_id args H post := .enterF Tryd.func61 PP_mix strings_Builder_WriteByte_comp ha h

/-! (*emendate.grammarfile.writer).enclosed -/
def grammarfile_writer_enclosed_kl : Nat → List Nat
  | 0 => [1]
  | 1 => [2, 6]
  | 2 => [0, 4, 7, 8, 9, 10]
  | 3 => [7, 11, 12, 13, 14]
  | 4 => [4, 15, 16, 17]
  | 5 => [0, 18, 19, 20, 21]
  | _ => []
def grammarfile_writer_enclosed_ow : Nat → Nat → Bool := fun _ _ => false
def grammarfile_writer_enclosed_c0 : AC := .reg [⟨some 4, none, .box (.t 1) 3 33⟩] [1]
@[simp] theorem grammarfile_writer_enclosed_c0_eq {K : AK} {env : Env} {H : AHeap} : aw PP grammarfile_writer_enclosed_c0 K env H = awOps PP [⟨some 4, none, .box (.t 1) 3 33⟩] (regK K [1]) (panK K) env H := aw_reg _ _
def grammarfile_writer_enclosed_c1 : AC := .reg [⟨some 6, none, .mov (.t 2)⟩, ⟨some 7, none, .not (.t 6)⟩] [2, 6]
@[simp] theorem grammarfile_writer_enclosed_c1_eq {K : AK} {env : Env} {H : AHeap} : aw PP grammarfile_writer_enclosed_c1 K env H = awOps PP [⟨some 6, none, .mov (.t 2)⟩, ⟨some 7, none, .not (.t 6)⟩] (regK K [2, 6]) (panK K) env H := aw_reg _ _
def grammarfile_writer_enclosed_c2 : AC := .reg [⟨some 8, none, .mov (.t 0)⟩, ⟨some 9, none, .ld true 3 (.t 4)⟩, ⟨some 10, none, .call (.c (.fn (.func 84) [] [])) [.t 8, .t 9]⟩] [0, 4, 7, 8, 9, 10]
@[simp] theorem grammarfile_writer_enclosed_c2_eq {K : AK} {env : Env} {H : AHeap} : aw PP grammarfile_writer_enclosed_c2 K env H = awOps PP [⟨some 8, none, .mov (.t 0)⟩, ⟨some 9, none, .ld true 3 (.t 4)⟩, ⟨some 10, none, .call (.c (.fn (.func 84) [] [])) [.t 8, .t 9]⟩] (regK K [0, 4, 7, 8, 9, 10]) (panK K) env H := aw_reg _ _
def grammarfile_writer_enclosed_c3 : AC := .seq grammarfile_writer_enclosed_c2 .ret
@[simp] theorem grammarfile_writer_enclosed_c3_eq {K : AK} {env : Env} {H : AHeap} : aw PP grammarfile_writer_enclosed_c3 K env H = aw PP grammarfile_writer_enclosed_c2 (seqK PP .ret K) env H := aw_seq grammarfile_writer_enclosed_c2 .ret
def grammarfile_writer_enclosed_c4 : AC := .cond (.t 7) grammarfile_writer_enclosed_c3 .skip
@[simp] theorem grammarfile_writer_enclosed_c4_eq {K : AK} {env : Env} {H : AHeap} : aw PP grammarfile_writer_enclosed_c4 K env H = condQ PP (Opd.ev env (.t 7)) grammarfile_writer_enclosed_c3 .skip K env H := aw_cond _ grammarfile_writer_enclosed_c3 .skip
def grammarfile_writer_enclosed_c5 : AC := .seq grammarfile_writer_enclosed_c1 grammarfile_writer_enclosed_c4
@[simp] theorem grammarfile_writer_enclosed_c5_eq {K : AK} {env : Env} {H : AHeap} : aw PP grammarfile_writer_enclosed_c5 K env H = aw PP grammarfile_writer_enclosed_c1 (seqK PP grammarfile_writer_enclosed_c4 K) env H := aw_seq grammarfile_writer_enclosed_c1 grammarfile_writer_enclosed_c4
def grammarfile_writer_enclosed_c6 : AC := .reg [⟨some 11, none, .mov (.t 0)⟩, ⟨some 12, none, .nilc (.t 11)⟩, ⟨some 13, none, .fa 0 0 (.t 12)⟩, ⟨some 14, none, .call (.c (.fn (.func 61) [] [])) [.t 13, .c (.int (.u8) 40)]⟩] [7, 11, 12, 13, 14]
@[simp] theorem grammarfile_writer_enclosed_c6_eq {K : AK} {env : Env} {H : AHeap} : aw PP grammarfile_writer_enclosed_c6 K env H = awOps PP [⟨some 11, none, .mov (.t 0)⟩, ⟨some 12, none, .nilc (.t 11)⟩, ⟨some 13, none, .fa 0 0 (.t 12)⟩, ⟨some 14, none, .call (.c (.fn (.func 61) [] [])) [.t 13, .c (.int (.u8) 40)]⟩] (regK K [7, 11, 12, 13, 14]) (panK K) env H := aw_reg _ _
def grammarfile_writer_enclosed_c7 : AC := .reg [⟨some 15, none, .mov (.t 0)⟩, ⟨some 16, none, .ld true 3 (.t 4)⟩, ⟨some 17, none, .call (.c (.fn (.func 84) [] [])) [.t 15, .t 16]⟩] [4, 15, 16, 17]
@[simp] theorem grammarfile_writer_enclosed_c7_eq {K : AK} {env : Env} {H : AHeap} : aw PP grammarfile_writer_enclosed_c7 K env H = awOps PP [⟨some 15, none, .mov (.t 0)⟩, ⟨some 16, none, .ld true 3 (.t 4)⟩, ⟨some 17, none, .call (.c (.fn (.func 84) [] [])) [.t 15, .t 16]⟩] (regK K [4, 15, 16, 17]) (panK K) env H := aw_reg _ _
def grammarfile_writer_enclosed_c8 : AC := .reg [⟨some 18, none, .mov (.t 0)⟩, ⟨some 19, none, .nilc (.t 18)⟩, ⟨some 20, none, .fa 0 0 (.t 19)⟩, ⟨some 21, none, .call (.c (.fn (.func 61) [] [])) [.t 20, .c (.int (.u8) 41)]⟩] [0, 18, 19, 20, 21]
@[simp] theorem grammarfile_writer_enclosed_c8_eq {K : AK} {env : Env} {H : AHeap} : aw PP grammarfile_writer_enclosed_c8 K env H = awOps PP [⟨some 18, none, .mov (.t 0)⟩, ⟨some 19, none, .nilc (.t 18)⟩, ⟨some 20, none, .fa 0 0 (.t 19)⟩, ⟨some 21, none, .call (.c (.fn (.func 61) [] [])) [.t 20, .c (.int (.u8) 41)]⟩] (regK K [0, 18, 19, 20, 21]) (panK K) env H := aw_reg _ _
def grammarfile_writer_enclosed_c9 : AC := .seq grammarfile_writer_enclosed_c7 grammarfile_writer_enclosed_c8
@[simp] theorem grammarfile_writer_enclosed_c9_eq {K : AK} {env : Env} {H : AHeap} : aw PP grammarfile_writer_enclosed_c9 K env H = aw PP grammarfile_writer_enclosed_c7 (seqK PP grammarfile_writer_enclosed_c8 K) env H := aw_seq grammarfile_writer_enclosed_c7 grammarfile_writer_enclosed_c8
def grammarfile_writer_enclosed_c10 : AC := .seq grammarfile_writer_enclosed_c6 grammarfile_writer_enclosed_c9
@[simp] theorem grammarfile_writer_enclosed_c10_eq {K : AK} {env : Env} {H : AHeap} : aw PP grammarfile_writer_enclosed_c10 K env H = aw PP grammarfile_writer_enclosed_c6 (seqK PP grammarfile_writer_enclosed_c9 K) env H := aw_seq grammarfile_writer_enclosed_c6 grammarfile_writer_enclosed_c9
def grammarfile_writer_enclosed_c11 : AC := .seq grammarfile_writer_enclosed_c5 grammarfile_writer_enclosed_c10
@[simp] theorem grammarfile_writer_enclosed_c11_eq {K : AK} {env : Env} {H : AHeap} : aw PP grammarfile_writer_enclosed_c11 K env H = aw PP grammarfile_writer_enclosed_c5 (seqK PP grammarfile_writer_enclosed_c10 K) env H := aw_seq grammarfile_writer_enclosed_c5 grammarfile_writer_enclosed_c10
def grammarfile_writer_enclosed_c12 : AC := .seq grammarfile_writer_enclosed_c0 grammarfile_writer_enclosed_c11
@[simp] theorem grammarfile_writer_enclosed_c12_eq {K : AK} {env : Env} {H : AHeap} : aw PP grammarfile_writer_enclosed_c12 K env H = aw PP grammarfile_writer_enclosed_c0 (seqK PP grammarfile_writer_enclosed_c11 K) env H := aw_seq grammarfile_writer_enclosed_c0 grammarfile_writer_enclosed_c11
def grammarfile_writer_enclosed_ac : AC := grammarfile_writer_enclosed_c12
@[simp] theorem grammarfile_writer_enclosed_ac_eq {K : AK} {env : Env} {H : AHeap} : aw PP grammarfile_writer_enclosed_ac K env H = aw PP grammarfile_writer_enclosed_c12 K env H := Eq.trans rfl rfl
def grammarfile_writer_enclosed_rs : List ARV := []
abbrev grammarfile_writer_enclosed_id : Nat := 62
theorem grammarfile_writer_enclosed_comp : compF PP grammarfile_writer_enclosed_kl grammarfile_writer_enclosed_ow 3 Tryd.f62 = some (grammarfile_writer_enclosed_ac, grammarfile_writer_enclosed_rs) := by kernel_rfl
theorem grammarfile_writer_enclosed_enter {args : List AV} {H : AHeap} {post : ARes → AHeap → Prop} (ha : args.length = 3) (h : aw PP grammarfile_writer_enclosed_ac (retK grammarfile_writer_enclosed_rs post) (argEnv 0 args) H) : ACalls PP grammarfile_writer_enclosed_id args H post := .enterF Tryd.func62 PP_mix grammarfile_writer_enclosed_comp ha h

/-! strconv.Itoa -/
def strconv_Itoa_kl : Nat → List Nat
  | 0 => [2]
  | 1 => [0, 3, 4]
  | _ => []
def strconv_Itoa_ow : Nat → Nat → Bool := fun _ _ => false
def strconv_Itoa_c0 : AC := .reg [⟨some 2, none, .mov (.c (.str []))⟩] [2]
@[simp] theorem strconv_Itoa_c0_eq {K : AK} {env : Env} {H : AHeap} : aw PP strconv_Itoa_c0 K env H = awOps PP [⟨some 2, none, .mov (.c (.str []))⟩] (regK K [2]) (panK K) env H := aw_reg _ _
def strconv_Itoa_c1 : AC := .reg [⟨some 3, none, .mov (.t 0)⟩, ⟨some 4, none, .call (.c (.fn (.func 85) [] [])) [.t 3]⟩, ⟨some 2, none, .mov (.t 4)⟩] [0, 3, 4]
@[simp] theorem strconv_Itoa_c1_eq {K : AK} {env : Env} {H : AHeap} : aw PP strconv_Itoa_c1 K env H = awOps PP [⟨some 3, none, .mov (.t 0)⟩, ⟨some 4, none, .call (.c (.fn (.func 85) [] [])) [.t 3]⟩, ⟨some 2, none, .mov (.t 4)⟩] (regK K [0, 3, 4]) (panK K) env H := aw_reg _ _
def strconv_Itoa_c2 : AC := .seq strconv_Itoa_c1 .ret
@[simp] theorem strconv_Itoa_c2_eq {K : AK} {env : Env} {H : AHeap} : aw PP strconv_Itoa_c2 K env H = aw PP strconv_Itoa_c1 (seqK PP .ret K) env H := aw_seq strconv_Itoa_c1 .ret
def strconv_Itoa_c3 : AC := .seq strconv_Itoa_c0 strconv_Itoa_c2
@[simp] theorem strconv_Itoa_c3_eq {K : AK} {env : Env} {H : AHeap} : aw PP strconv_Itoa_c3 K env H = aw PP strconv_Itoa_c0 (seqK PP strconv_Itoa_c2 K) env H := aw_seq strconv_Itoa_c0 strconv_Itoa_c2
def strconv_Itoa_ac : AC := strconv_Itoa_c3
@[simp] theorem strconv_Itoa_ac_eq {K : AK} {env : Env} {H : AHeap} : aw PP strconv_Itoa_ac K env H = aw PP strconv_Itoa_c3 K env H := Eq.trans rfl rfl
def strconv_Itoa_rs : List ARV := [.tmp 2]
abbrev strconv_Itoa_id : Nat := 63
theorem strconv_Itoa_comp : compF PP strconv_Itoa_kl strconv_Itoa_ow 1 Tryd.f63 = some (strconv_Itoa_ac, strconv_Itoa_rs) := by kernel_rfl
theorem strconv_Itoa_enter {args : List AV} {H : AHeap} {post : ARes → AHeap → Prop} (ha : args.length = 1) (h : aw PP strconv_Itoa_ac (retK strconv_Itoa_rs post) (argEnv 0 args) H) : ACalls PP strconv_Itoa_id args H post := .enterF Tryd.func63 PP_mix strconv_Itoa_comp ha h

/-! emendate.grammarparser.span -/
def grammarparser_span_kl : Nat → List Nat
  | 0 => [6]
  | 1 => [7, 8, 9, 10, 11, 12, 13, 14, 15, 16]
  | 2 => [17, 18, 19]
  | 3 => [0, 1, 2, 17, 20]
  | _ => []
def grammarparser_span_ow : Nat → Nat → Bool := fun _ _ => false
def grammarparser_span_c0 : AC := .reg [⟨some 6, none, .mov (.c (.int (.i64) 0))⟩] [6]
@[simp] theorem grammarparser_span_c0_eq {K : AK} {env : Env} {H : AHeap} : aw PP grammarparser_span_c0 K env H = awOps PP [⟨some 6, none, .mov (.c (.int (.i64) 0))⟩] (regK K [6]) (panK K) env H := aw_reg _ _
def grammarparser_span_c1 : AC := .reg [⟨some 7, none, .mov (.t 1)⟩, ⟨some 8, none, .mov (.t 0)⟩, ⟨some 9, none, .lens (.t 8)⟩, ⟨some 10, none, .bin (.lss) (.t 7) (.t 9)⟩, ⟨some 11, none, .mov (.t 10)⟩, ⟨some 12, some (11, true), .mov (.t 2)⟩, ⟨some 13, some (11, true), .mov (.t 0)⟩, ⟨some 14, some (11, true), .mov (.t 1)⟩, ⟨some 15, some (11, true), .ix (.t 13) (.t 14)⟩, ⟨some 16, some (11, true), .call (.t 12) [.t 15]⟩, ⟨some 17, none, .pick (.t 11) (.t 16) (.c (.bool false))⟩] [7, 8, 9, 10, 11, 12, 13, 14, 15, 16]
@[simp] theorem grammarparser_span_c1_eq {K : AK} {env : Env} {H : AHeap} : aw PP grammarparser_span_c1 K env H = awOps PP [⟨some 7, none, .mov (.t 1)⟩, ⟨some 8, none, .mov (.t 0)⟩, ⟨some 9, none, .lens (.t 8)⟩, ⟨some 10, none, .bin (.lss) (.t 7) (.t 9)⟩, ⟨some 11, none, .mov (.t 10)⟩, ⟨some 12, some (11, true), .mov (.t 2)⟩, ⟨some 13, some (11, true), .mov (.t 0)⟩, ⟨some 14, some (11, true), .mov (.t 1)⟩, ⟨some 15, some (11, true), .ix (.t 13) (.t 14)⟩, ⟨some 16, some (11, true), .call (.t 12) [.t 15]⟩, ⟨some 17, none, .pick (.t 11) (.t 16) (.c (.bool false))⟩] (regK K [7, 8, 9, 10, 11, 12, 13, 14, 15, 16]) (panK K) env H := aw_reg _ _
def grammarparser_span_c2 : AC := .cond (.t 17) .skip (.exit 0)
@[simp] theorem grammarparser_span_c2_eq {K : AK} {env : Env} {H : AHeap} : aw PP grammarparser_span_c2 K env H = condQ PP (Opd.ev env (.t 17)) .skip (.exit 0) K env H := aw_cond _ .skip (.exit 0)
def grammarparser_span_c3 : AC := .seq grammarparser_span_c1 grammarparser_span_c2
@[simp] theorem grammarparser_span_c3_eq {K : AK} {env : Env} {H : AHeap} : aw PP grammarparser_span_c3 K env H = aw PP grammarparser_span_c1 (seqK PP grammarparser_span_c2 K) env H := aw_seq grammarparser_span_c1 grammarparser_span_c2
def grammarparser_span_c4 : AC := .reg [⟨some 18, none, .mov (.t 1)⟩, ⟨some 19, none, .bin (.add) (.t 18) (.c (.int (.i64) 1))⟩, ⟨some 1, none, .mov (.t 19)⟩] [17, 18, 19]
@[simp] theorem grammarparser_span_c4_eq {K : AK} {env : Env} {H : AHeap} : aw PP grammarparser_span_c4 K env H = awOps PP [⟨some 18, none, .mov (.t 1)⟩, ⟨some 19, none, .bin (.add) (.t 18) (.c (.int (.i64) 1))⟩, ⟨some 1, none, .mov (.t 19)⟩] (regK K [17, 18, 19]) (panK K) env H := aw_reg _ _
def grammarparser_span_c5 : AC := .block 1 grammarparser_span_c4
@[simp] theorem grammarparser_span_c5_eq {K : AK} {env : Env} {H : AHeap} : aw PP grammarparser_span_c5 K env H = aw PP grammarparser_span_c4 (blockK 1 K) env H := aw_block _ grammarparser_span_c4
def grammarparser_span_c6 : AC := .seq grammarparser_span_c3 grammarparser_span_c5
@[simp] theorem grammarparser_span_c6_eq {K : AK} {env : Env} {H : AHeap} : aw PP grammarparser_span_c6 K env H = aw PP grammarparser_span_c3 (seqK PP grammarparser_span_c5 K) env H := aw_seq grammarparser_span_c3 grammarparser_span_c5
def grammarparser_span_c7 : AC := .loop grammarparser_span_c6
def grammarparser_span_c8 : AC := .block 0 grammarparser_span_c7
@[simp] theorem grammarparser_span_c8_eq {K : AK} {env : Env} {H : AHeap} : aw PP grammarparser_span_c8 K env H = aw PP grammarparser_span_c7 (blockK 0 K) env H := aw_block _ grammarparser_span_c7
def grammarparser_span_c9 : AC := .reg [⟨some 20, none, .mov (.t 1)⟩, ⟨some 6, none, .mov (.t 20)⟩] [0, 1, 2, 17, 20]
@[simp] theorem grammarparser_span_c9_eq {K : AK} {env : Env} {H : AHeap} : aw PP grammarparser_span_c9 K env H = awOps PP [⟨some 20, none, .mov (.t 1)⟩, ⟨some 6, none, .mov (.t 20)⟩] (regK K [0, 1, 2, 17, 20]) (panK K) env H := aw_reg _ _
def grammarparser_span_c10 : AC := .seq grammarparser_span_c9 .ret
@[simp] theorem grammarparser_span_c10_eq {K : AK} {env : Env} {H : AHeap} : aw PP grammarparser_span_c10 K env H = aw PP grammarparser_span_c9 (seqK PP .ret K) env H := aw_seq grammarparser_span_c9 .ret
def grammarparser_span_c11 : AC := .seq grammarparser_span_c8 grammarparser_span_c10
@[simp] theorem grammarparser_span_c11_eq {K : AK} {env : Env} {H : AHeap} : aw PP grammarparser_span_c11 K env H = aw PP grammarparser_span_c8 (seqK PP grammarparser_span_c10 K) env H := aw_seq grammarparser_span_c8 grammarparser_span_c10
def grammarparser_span_c12 : AC := .seq grammarparser_span_c0 grammarparser_span_c11
@[simp] theorem grammarparser_span_c12_eq {K : AK} {env : Env} {H : AHeap} : aw PP grammarparser_span_c12 K env H = aw PP grammarparser_span_c0 (seqK PP grammarparser_span_c11 K) env H := aw_seq grammarparser_span_c0 grammarparser_span_c11
def grammarparser_span_ac : AC := grammarparser_span_c12
@[simp] theorem grammarparser_span_ac_eq {K : AK} {env : Env} {H : AHeap} : aw PP grammarparser_span_ac K env H = aw PP grammarparser_span_c12 K env H := Eq.trans rfl rfl
def grammarparser_span_rs : List ARV := [.tmp 6]
abbrev grammarparser_span_id : Nat := 66
theorem grammarparser_span_comp : compF PP grammarparser_span_kl grammarparser_span_ow 3 Tryd.f66 = some (grammarparser_span_ac, grammarparser_span_rs) := by kernel_rfl
theorem grammarparser_span_enter {args : List AV} {H : AHeap} {post : ARes → AHeap → Prop} (ha : args.length = 3) (h : aw PP grammarparser_span_ac (retK grammarparser_span_rs post) (argEnv 0 args) H) : ACalls PP grammarparser_span_id args H post := .enterF Tryd.func66 PP_mix grammarparser_span_comp ha h

/-! emendate.grammarparser.lex$1 -/
def grammarparser_lex_1_kl : Nat → List Nat
  | 0 => [2]
  | 1 => [0, 3, 4]
  | _ => []
def grammarparser_lex_1_ow : Nat → Nat → Bool := fun _ _ => false
def grammarparser_lex_1_c0 : AC := .reg [⟨some 2, none, .mov (.c (.bool false))⟩] [2]
@[simp] theorem grammarparser_lex_1_c0_eq {K : AK} {env : Env} {H : AHeap} : aw PP grammarparser_lex_1_c0 K env H = awOps PP [⟨some 2, none, .mov (.c (.bool false))⟩] (regK K [2]) (panK K) env H := aw_reg _ _
def grammarparser_lex_1_c1 : AC := .reg [⟨some 3, none, .mov (.t 0)⟩, ⟨some 4, none, .bin (.neq) (.t 3) (.c (.int (.u8) 10))⟩, ⟨some 2, none, .mov (.t 4)⟩] [0, 3, 4]
@[simp] theorem grammarparser_lex_1_c1_eq {K : AK} {env : Env} {H : AHeap} : aw PP grammarparser_lex_1_c1 K env H = awOps PP [⟨some 3, none, .mov (.t 0)⟩, ⟨some 4, none, .bin (.neq) (.t 3) (.c (.int (.u8) 10))⟩, ⟨some 2, none, .mov (.t 4)⟩] (regK K [0, 3, 4]) (panK K) env H := aw_reg _ _
def grammarparser_lex_1_c2 : AC := .seq grammarparser_lex_1_c1 .ret
@[simp] theorem grammarparser_lex_1_c2_eq {K : AK} {env : Env} {H : AHeap} : aw PP grammarparser_lex_1_c2 K env H = aw PP grammarparser_lex_1_c1 (seqK PP .ret K) env H := aw_seq grammarparser_lex_1_c1 .ret
def grammarparser_lex_1_c3 : AC := .seq grammarparser_lex_1_c0 grammarparser_lex_1_c2
@[simp] theorem grammarparser_lex_1_c3_eq {K : AK} {env : Env} {H : AHeap} : aw PP grammarparser_lex_1_c3 K env H = aw PP grammarparser_lex_1_c0 (seqK PP grammarparser_lex_1_c2 K) env H := aw_seq grammarparser_lex_1_c0 grammarparser_lex_1_c2
def grammarparser_lex_1_ac : AC := grammarparser_lex_1_c3
@[simp] theorem grammarparser_lex_1_ac_eq {K : AK} {env : Env} {H : AHeap} : aw PP grammarparser_lex_1_ac K env H = aw PP grammarparser_lex_1_c3 K env H := Eq.trans rfl rfl
def grammarparser_lex_1_rs : List ARV := [.tmp 2]
abbrev grammarparser_lex_1_id : Nat := 67
theorem grammarparser_lex_1_comp : compF PP grammarparser_lex_1_kl grammarparser_lex_1_ow 1 Tryd.f67 = some (grammarparser_lex_1_ac, grammarparser_lex_1_rs) := by kernel_rfl
theorem grammarparser_lex_1_enter {args : List AV} {H : AHeap} {post : ARes → AHeap → Prop} (ha : args.length = 1) (h : aw PP grammarparser_lex_1_ac (retK grammarparser_lex_1_rs post) (argEnv 0 args) H) : ACalls PP grammarparser_lex_1_id args H post := .enterF Tryd.func67 PP_mix grammarparser_lex_1_comp ha h

/-! emendate.grammarparser.letter -/
def grammarparser_letter_kl : Nat → List Nat
  | 0 => [2]
  | 1 => [0, 3, 4, 5, 6, 7, 8, 9, 10, 11, 12, 13, 14, 15, 16]
  | _ => []
def grammarparser_letter_ow : Nat → Nat → Bool := fun _ _ => false
def grammarparser_letter_c0 : AC := .reg [⟨some 2, none, .mov (.c (.bool false))⟩] [2]
@[simp] theorem grammarparser_letter_c0_eq {K : AK} {env : Env} {H : AHeap} : aw PP grammarparser_letter_c0 K env H = awOps PP [⟨some 2, none, .mov (.c (.bool false))⟩] (regK K [2]) (panK K) env H := aw_reg _ _
def grammarparser_letter_c1 : AC := .reg [⟨some 3, none, .mov (.t 0)⟩, ⟨some 4, none, .bin (.geq) (.t 3) (.c (.int (.u8) 97))⟩, ⟨some 5, none, .mov (.t 4)⟩, ⟨some 6, some (5, true), .mov (.t 0)⟩, ⟨some 7, some (5, true), .bin (.leq) (.t 6) (.c (.int (.u8) 122))⟩, ⟨some 8, none, .pick (.t 5) (.t 7) (.c (.bool false))⟩, ⟨some 9, none, .mov (.t 8)⟩, ⟨some 10, some (9, false), .mov (.t 0)⟩, ⟨some 11, some (9, false), .bin (.geq) (.t 10) (.c (.int (.u8) 65))⟩, ⟨some 12, some (9, false), .mov (.t 11)⟩, ⟨some 13, some (12, true), .mov (.t 0)⟩, ⟨some 14, some (12, true), .bin (.leq) (.t 13) (.c (.int (.u8) 90))⟩, ⟨some 15, some (9, false), .pick (.t 12) (.t 14) (.c (.bool false))⟩, ⟨some 16, none, .pick (.t 9) (.c (.bool true)) (.t 15)⟩, ⟨some 2, none, .mov (.t 16)⟩] [0, 3, 4, 5, 6, 7, 8, 9, 10, 11, 12, 13, 14, 15, 16]
@[simp] theorem grammarparser_letter_c1_eq {K : AK} {env : Env} {H : AHeap} : aw PP grammarparser_letter_c1 K env H = awOps PP [⟨some 3, none, .mov (.t 0)⟩, ⟨some 4, none, .bin (.geq) (.t 3) (.c (.int (.u8) 97))⟩, ⟨some 5, none, .mov (.t 4)⟩, ⟨some 6, some (5, true), .mov (.t 0)⟩, ⟨some 7, some (5, true), .bin (.leq) (.t 6) (.c (.int (.u8) 122))⟩, ⟨some 8, none, .pick (.t 5) (.t 7) (.c (.bool false))⟩, ⟨some 9, none, .mov (.t 8)⟩, ⟨some 10, some (9, false), .mov (.t 0)⟩, ⟨some 11, some (9, false), .bin (.geq) (.t 10) (.c (.int (.u8) 65))⟩, ⟨some 12, some (9, false), .mov (.t 11)⟩, ⟨some 13, some (12, true), .mov (.t 0)⟩, ⟨some 14, some (12, true), .bin (.leq) (.t 13) (.c (.int (.u8) 90))⟩, ⟨some 15, some (9, false), .pick (.t 12) (.t 14) (.c (.bool false))⟩, ⟨some 16, none, .pick (.t 9) (.c (.bool true)) (.t 15)⟩, ⟨some 2, none, .mov (.t 16)⟩] (regK K [0, 3, 4, 5, 6, 7, 8, 9, 10, 11, 12, 13, 14, 15, 16]) (panK K) env H := aw_reg _ _
def grammarparser_letter_c2 : AC := .seq grammarparser_letter_c1 .ret
@[simp] theorem grammarparser_letter_c2_eq {K : AK} {env : Env} {H : AHeap} : aw PP grammarparser_letter_c2 K env H = aw PP grammarparser_letter_c1 (seqK PP .ret K) env H := aw_seq grammarparser_letter_c1 .ret
def grammarparser_letter_c3 : AC := .seq grammarparser_letter_c0 grammarparser_letter_c2
@[simp] theorem grammarparser_letter_c3_eq {K : AK} {env : Env} {H : AHeap} : aw PP grammarparser_letter_c3 K env H = aw PP grammarparser_letter_c0 (seqK PP grammarparser_letter_c2 K) env H := aw_seq grammarparser_letter_c0 grammarparser_letter_c2
def grammarparser_letter_ac : AC := grammarparser_letter_c3
@[simp] theorem grammarparser_letter_ac_eq {K : AK} {env : Env} {H : AHeap} : aw PP grammarparser_letter_ac K env H = aw PP grammarparser_letter_c3 K env H := Eq.trans rfl rfl
def grammarparser_letter_rs : List ARV := [.tmp 2]
abbrev grammarparser_letter_id : Nat := 68
theorem grammarparser_letter_comp : compF PP grammarparser_letter_kl grammarparser_letter_ow 1 Tryd.f68 = some (grammarparser_letter_ac, grammarparser_letter_rs) := by kernel_rfl
theorem grammarparser_letter_enter {args : List AV} {H : AHeap} {post : ARes → AHeap → Prop} (ha : args.length = 1) (h : aw PP grammarparser_letter_ac (retK grammarparser_letter_rs post) (argEnv 0 args) H) : ACalls PP grammarparser_letter_id args H post := .enterF Tryd.func68 PP_mix grammarparser_letter_comp ha h

/-! emendate.grammarparser.lex$2 -/
def grammarparser_lex_2_kl : Nat → List Nat
  | 0 => [2]
  | 1 => [0, 3, 4, 5, 6, 7, 8, 9, 10, 11, 12]
  | _ => []
def grammarparser_lex_2_ow : Nat → Nat → Bool := fun _ _ => false
def grammarparser_lex_2_c0 : AC := .reg [⟨some 2, none, .mov (.c (.bool false))⟩] [2]
@[simp] theorem grammarparser_lex_2_c0_eq {K : AK} {env : Env} {H : AHeap} : aw PP grammarparser_lex_2_c0 K env H = awOps PP [⟨some 2, none, .mov (.c (.bool false))⟩] (regK K [2]) (panK K) env H := aw_reg _ _
def grammarparser_lex_2_c1 : AC := .reg [⟨some 3, none, .mov (.t 0)⟩, ⟨some 4, none, .call (.c (.fn (.func 68) [] [])) [.t 3]⟩, ⟨some 5, none, .mov (.t 4)⟩, ⟨some 6, some (5, false), .mov (.t 0)⟩, ⟨some 7, some (5, false), .call (.c (.fn (.func 70) [] [])) [.t 6]⟩, ⟨some 8, none, .pick (.t 5) (.c (.bool true)) (.t 7)⟩, ⟨some 9, none, .mov (.t 8)⟩, ⟨some 10, some (9, false), .mov (.t 0)⟩, ⟨some 11, some (9, false), .bin (.eql) (.t 10) (.c (.int (.u8) 95))⟩, ⟨some 12, none, .pick (.t 9) (.c (.bool true)) (.t 11)⟩, ⟨some 2, none, .mov (.t 12)⟩] [0, 3, 4, 5, 6, 7, 8, 9, 10, 11, 12]
@[simp] theorem grammarparser_lex_2_c1_eq {K : AK} {env : Env} {H : AHeap} : aw PP grammarparser_lex_2_c1 K env H = awOps PP [⟨some 3, none, .mov (.t 0)⟩, ⟨some 4, none, .call (.c (.fn (.func 68) [] [])) [.t 3]⟩, ⟨some 5, none, .mov (.t 4)⟩, ⟨some 6, some (5, false), .mov (.t 0)⟩, ⟨some 7, some (5, false), .call (.c (.fn (.func 70) [] [])) [.t 6]⟩, ⟨some 8, none, .pick (.t 5) (.c (.bool true)) (.t 7)⟩, ⟨some 9, none, .mov (.t 8)⟩, ⟨some 10, some (9, false), .mov (.t 0)⟩, ⟨some 11, some (9, false), .bin (.eql) (.t 10) (.c (.int (.u8) 95))⟩, ⟨some 12, none, .pick (.t 9) (.c (.bool true)) (.t 11)⟩, ⟨some 2, none, .mov (.t 12)⟩] (regK K [0, 3, 4, 5, 6, 7, 8, 9, 10, 11, 12]) (panK K) env H := aw_reg _ _
def grammarparser_lex_2_c2 : AC := .seq grammarparser_lex_2_c1 .ret
@[simp] theorem grammarparser_lex_2_c2_eq {K : AK} {env : Env} {H : AHeap} : aw PP grammarparser_lex_2_c2 K env H = aw PP grammarparser_lex_2_c1 (seqK PP .ret K) env H := aw_seq grammarparser_lex_2_c1 .ret
def grammarparser_lex_2_c3 : AC := .seq grammarparser_lex_2_c0 grammarparser_lex_2_c2
@[simp] theorem grammarparser_lex_2_c3_eq {K : AK} {env : Env} {H : AHeap} : aw PP grammarparser_lex_2_c3 K env H = aw PP grammarparser_lex_2_c0 (seqK PP grammarparser_lex_2_c2 K) env H := aw_seq grammarparser_lex_2_c0 grammarparser_lex_2_c2
def grammarparser_lex_2_ac : AC := grammarparser_lex_2_c3
@[simp] theorem grammarparser_lex_2_ac_eq {K : AK} {env : Env} {H : AHeap} : aw PP grammarparser_lex_2_ac K env H = aw PP grammarparser_lex_2_c3 K env H := Eq.trans rfl rfl
def grammarparser_lex_2_rs : List ARV := [.tmp 2]
abbrev grammarparser_lex_2_id : Nat := 69
theorem grammarparser_lex_2_comp : compF PP grammarparser_lex_2_kl grammarparser_lex_2_ow 1 Tryd.f69 = some (grammarparser_lex_2_ac, grammarparser_lex_2_rs) := by kernel_rfl
theorem grammarparser_lex_2_enter {args : List AV} {H : AHeap} {post : ARes → AHeap → Prop} (ha : args.length = 1) (h : aw PP grammarparser_lex_2_ac (retK grammarparser_lex_2_rs post) (argEnv 0 args) H) : ACalls PP grammarparser_lex_2_id args H post := .enterF Tryd.func69 PP_mix grammarparser_lex_2_comp ha h

/-! emendate.grammarparser.digit -/
def grammarparser_digit_kl : Nat → List Nat
  | 0 => [2]
  | 1 => [0, 3, 4, 5, 6, 7, 8]
  | _ => []
def grammarparser_digit_ow : Nat → Nat → Bool := fun _ _ => false
def grammarparser_digit_c0 : AC := .reg [⟨some 2, none, .mov (.c (.bool false))⟩] [2]
@[simp] theorem grammarparser_digit_c0_eq {K : AK} {env : Env} {H : AHeap} : aw PP grammarparser_digit_c0 K env H = awOps PP [⟨some 2, none, .mov (.c (.bool false))⟩] (regK K [2]) (panK K) env H := aw_reg _ _
def grammarparser_digit_c1 : AC := .reg [⟨some 3, none, .mov (.t 0)⟩, ⟨some 4, none, .bin (.geq) (.t 3) (.c (.int (.u8) 48))⟩, ⟨some 5, none, .mov (.t 4)⟩, ⟨some 6, some (5, true), .mov (.t 0)⟩, ⟨some 7, some (5, true), .bin (.leq) (.t 6) (.c (.int (.u8) 57))⟩, ⟨some 8, none, .pick (.t 5) (.t 7) (.c (.bool false))⟩, ⟨some 2, none, .mov (.t 8)⟩] [0, 3, 4, 5, 6, 7, 8]
@[simp] theorem grammarparser_digit_c1_eq {K : AK} {env : Env} {H : AHeap} : aw PP grammarparser_digit_c1 K env H = awOps PP [⟨some 3, none, .mov (.t 0)⟩, ⟨some 4, none, .bin (.geq) (.t 3) (.c (.int (.u8) 48))⟩, ⟨some 5, none, .mov (.t 4)⟩, ⟨some 6, some (5, true), .mov (.t 0)⟩, ⟨some 7, some (5, true), .bin (.leq) (.t 6) (.c (.int (.u8) 57))⟩, ⟨some 8, none, .pick (.t 5) (.t 7) (.c (.bool false))⟩, ⟨some 2, none, .mov (.t 8)⟩] (regK K [0, 3, 4, 5, 6, 7, 8]) (panK K) env H := aw_reg _ _
def grammarparser_digit_c2 : AC := .seq grammarparser_digit_c1 .ret
@[simp] theorem grammarparser_digit_c2_eq {K : AK} {env : Env} {H : AHeap} : aw PP grammarparser_digit_c2 K env H = aw PP grammarparser_digit_c1 (seqK PP .ret K) env H := aw_seq grammarparser_digit_c1 .ret
def grammarparser_digit_c3 : AC := .seq grammarparser_digit_c0 grammarparser_digit_c2
@[simp] theorem grammarparser_digit_c3_eq {K : AK} {env : Env} {H : AHeap} : aw PP grammarparser_digit_c3 K env H = aw PP grammarparser_digit_c0 (seqK PP grammarparser_digit_c2 K) env H := aw_seq grammarparser_digit_c0 grammarparser_digit_c2
def grammarparser_digit_ac : AC := grammarparser_digit_c3
@[simp] theorem grammarparser_digit_ac_eq {K : AK} {env : Env} {H : AHeap} : aw PP grammarparser_digit_ac K env H = aw PP grammarparser_digit_c3 K env H := Eq.trans rfl rfl
def grammarparser_digit_rs : List ARV := [.tmp 2]
abbrev grammarparser_digit_id : Nat := 70
theorem grammarparser_digit_comp : compF PP grammarparser_digit_kl grammarparser_digit_ow 1 Tryd.f70 = some (grammarparser_digit_ac, grammarparser_digit_rs) := by kernel_rfl
theorem grammarparser_digit_enter {args : List AV} {H : AHeap} {post : ARes → AHeap → Prop} (ha : args.length = 1) (h : aw PP grammarparser_digit_ac (retK grammarparser_digit_rs post) (argEnv 0 args) H) : ACalls PP grammarparser_digit_id args H post := .enterF Tryd.func70 PP_mix grammarparser_digit_comp ha h

/-! emendate.grammarparser.value -/
def grammarparser_value_kl : Nat → List Nat
  | 0 => [2]
  | 2 => [5]
  | 4 => [8, 9]
  | 5 => [4, 10, 11, 12, 13, 14, 15, 16, 17, 18]
  | 6 => [19]
  | 7 => [0, 3, 6, 7, 8, 20]
  | _ => []
def grammarparser_value_ow : Nat → Nat → Bool := fun _ _ => false
def grammarparser_value_c0 : AC := .reg [⟨some 2, none, .mov (.c (.int (.i64) 0))⟩] [2]
@[simp] theorem grammarparser_value_c0_eq {K : AK} {env : Env} {H : AHeap} : aw PP grammarparser_value_c0 K env H = awOps PP [⟨some 2, none, .mov (.c (.int (.i64) 0))⟩] (regK K [2]) (panK K) env H := aw_reg _ _
def grammarparser_value_c1 : AC := .reg [⟨some 3, none, .mov (.c (.int (.i64) 0))⟩] []
@[simp] theorem grammarparser_value_c1_eq {K : AK} {env : Env} {H : AHeap} : aw PP grammarparser_value_c1 K env H = awOps PP [⟨some 3, none, .mov (.c (.int (.i64) 0))⟩] (regK K []) (panK K) env H := aw_reg _ _
def grammarparser_value_c2 : AC := .reg [⟨some 5, none, .mov (.t 0)⟩, ⟨some 6, none, .lens (.t 5)⟩, ⟨some 7, none, .mov (.c (.int (.i64) 0))⟩] [5]
@[simp] theorem grammarparser_value_c2_eq {K : AK} {env : Env} {H : AHeap} : aw PP grammarparser_value_c2 K env H = awOps PP [⟨some 5, none, .mov (.t 0)⟩, ⟨some 6, none, .lens (.t 5)⟩, ⟨some 7, none, .mov (.c (.int (.i64) 0))⟩] (regK K [5]) (panK K) env H := aw_reg _ _
def grammarparser_value_c3 : AC := .reg [⟨some 8, none, .bin (.lss) (.t 7) (.t 6)⟩] []
@[simp] theorem grammarparser_value_c3_eq {K : AK} {env : Env} {H : AHeap} : aw PP grammarparser_value_c3 K env H = awOps PP [⟨some 8, none, .bin (.lss) (.t 7) (.t 6)⟩] (regK K []) (panK K) env H := aw_reg _ _
def grammarparser_value_c4 : AC := .cond (.t 8) .skip (.exit 0)
@[simp] theorem grammarparser_value_c4_eq {K : AK} {env : Env} {H : AHeap} : aw PP grammarparser_value_c4 K env H = condQ PP (Opd.ev env (.t 8)) .skip (.exit 0) K env H := aw_cond _ .skip (.exit 0)
def grammarparser_value_c5 : AC := .reg [⟨some 9, none, .mov (.t 7)⟩, ⟨some 4, none, .mov (.t 9)⟩] [8, 9]
@[simp] theorem grammarparser_value_c5_eq {K : AK} {env : Env} {H : AHeap} : aw PP grammarparser_value_c5 K env H = awOps PP [⟨some 9, none, .mov (.t 7)⟩, ⟨some 4, none, .mov (.t 9)⟩] (regK K [8, 9]) (panK K) env H := aw_reg _ _
def grammarparser_value_c6 : AC := .reg [⟨some 10, none, .mov (.t 3)⟩, ⟨some 11, none, .bin (.mul) (.c (.int (.i64) 10)) (.t 10)⟩, ⟨some 12, none, .mov (.t 0)⟩, ⟨some 13, none, .mov (.t 4)⟩, ⟨some 14, none, .ix (.t 12) (.t 13)⟩, ⟨some 15, none, .bin (.sub) (.t 14) (.c (.int (.u8) 48))⟩, ⟨some 16, none, .conv (.i64) (.t 15)⟩, ⟨some 17, none, .bin (.add) (.t 11) (.t 16)⟩, ⟨some 18, none, .mn (.t 17) (.c (.int (.i64) 1001))⟩, ⟨some 3, none, .mov (.t 18)⟩] [4, 10, 11, 12, 13, 14, 15, 16, 17, 18]
@[simp] theorem grammarparser_value_c6_eq {K : AK} {env : Env} {H : AHeap} : aw PP grammarparser_value_c6 K env H = awOps PP [⟨some 10, none, .mov (.t 3)⟩, ⟨some 11, none, .bin (.mul) (.c (.int (.i64) 10)) (.t 10)⟩, ⟨some 12, none, .mov (.t 0)⟩, ⟨some 13, none, .mov (.t 4)⟩, ⟨some 14, none, .ix (.t 12) (.t 13)⟩, ⟨some 15, none, .bin (.sub) (.t 14) (.c (.int (.u8) 48))⟩, ⟨some 16, none, .conv (.i64) (.t 15)⟩, ⟨some 17, none, .bin (.add) (.t 11) (.t 16)⟩, ⟨some 18, none, .mn (.t 17) (.c (.int (.i64) 1001))⟩, ⟨some 3, none, .mov (.t 18)⟩] (regK K [4, 10, 11, 12, 13, 14, 15, 16, 17, 18]) (panK K) env H := aw_reg _ _
def grammarparser_value_c7 : AC := .seq grammarparser_value_c5 grammarparser_value_c6
@[simp] theorem grammarparser_value_c7_eq {K : AK} {env : Env} {H : AHeap} : aw PP grammarparser_value_c7 K env H = aw PP grammarparser_value_c5 (seqK PP grammarparser_value_c6 K) env H := aw_seq grammarparser_value_c5 grammarparser_value_c6
def grammarparser_value_c8 : AC := .block 1 grammarparser_value_c7
@[simp] theorem grammarparser_value_c8_eq {K : AK} {env : Env} {H : AHeap} : aw PP grammarparser_value_c8 K env H = aw PP grammarparser_value_c7 (blockK 1 K) env H := aw_block _ grammarparser_value_c7
def grammarparser_value_c9 : AC := .reg [⟨some 19, none, .bin (.add) (.t 7) (.c (.int (.i64) 1))⟩, ⟨some 7, none, .mov (.t 19)⟩] [19]
@[simp] theorem grammarparser_value_c9_eq {K : AK} {env : Env} {H : AHeap} : aw PP grammarparser_value_c9 K env H = awOps PP [⟨some 19, none, .bin (.add) (.t 7) (.c (.int (.i64) 1))⟩, ⟨some 7, none, .mov (.t 19)⟩] (regK K [19]) (panK K) env H := aw_reg _ _
def grammarparser_value_c10 : AC := .seq grammarparser_value_c8 grammarparser_value_c9
@[simp] theorem grammarparser_value_c10_eq {K : AK} {env : Env} {H : AHeap} : aw PP grammarparser_value_c10 K env H = aw PP grammarparser_value_c8 (seqK PP grammarparser_value_c9 K) env H := aw_seq grammarparser_value_c8 grammarparser_value_c9
def grammarparser_value_c11 : AC := .seq grammarparser_value_c4 grammarparser_value_c10
@[simp] theorem grammarparser_value_c11_eq {K : AK} {env : Env} {H : AHeap} : aw PP grammarparser_value_c11 K env H = aw PP grammarparser_value_c4 (seqK PP grammarparser_value_c10 K) env H := aw_seq grammarparser_value_c4 grammarparser_value_c10
def grammarparser_value_c12 : AC := .seq grammarparser_value_c3 grammarparser_value_c11
@[simp] theorem grammarparser_value_c12_eq {K : AK} {env : Env} {H : AHeap} : aw PP grammarparser_value_c12 K env H = aw PP grammarparser_value_c3 (seqK PP grammarparser_value_c11 K) env H := aw_seq grammarparser_value_c3 grammarparser_value_c11
def grammarparser_value_c13 : AC := .loop grammarparser_value_c12
def grammarparser_value_c14 : AC := .block 0 grammarparser_value_c13
@[simp] theorem grammarparser_value_c14_eq {K : AK} {env : Env} {H : AHeap} : aw PP grammarparser_value_c14 K env H = aw PP grammarparser_value_c13 (blockK 0 K) env H := aw_block _ grammarparser_value_c13
def grammarparser_value_c15 : AC := .seq grammarparser_value_c2 grammarparser_value_c14
@[simp] theorem grammarparser_value_c15_eq {K : AK} {env : Env} {H : AHeap} : aw PP grammarparser_value_c15 K env H = aw PP grammarparser_value_c2 (seqK PP grammarparser_value_c14 K) env H := aw_seq grammarparser_value_c2 grammarparser_value_c14
def grammarparser_value_c16 : AC := .reg [⟨some 20, none, .mov (.t 3)⟩, ⟨some 2, none, .mov (.t 20)⟩] [0, 3, 6, 7, 8, 20]
@[simp] theorem grammarparser_value_c16_eq {K : AK} {env : Env} {H : AHeap} : aw PP grammarparser_value_c16 K env H = awOps PP [⟨some 20, none, .mov (.t 3)⟩, ⟨some 2, none, .mov (.t 20)⟩] (regK K [0, 3, 6, 7, 8, 20]) (panK K) env H := aw_reg _ _
def grammarparser_value_c17 : AC := .seq grammarparser_value_c16 .ret
@[simp] theorem grammarparser_value_c17_eq {K : AK} {env : Env} {H : AHeap} : aw PP grammarparser_value_c17 K env H = aw PP grammarparser_value_c16 (seqK PP .ret K) env H := aw_seq grammarparser_value_c16 .ret
def grammarparser_value_c18 : AC := .seq grammarparser_value_c15 grammarparser_value_c17
@[simp] theorem grammarparser_value_c18_eq {K : AK} {env : Env} {H : AHeap} : aw PP grammarparser_value_c18 K env H = aw PP grammarparser_value_c15 (seqK PP grammarparser_value_c17 K) env H := aw_seq grammarparser_value_c15 grammarparser_value_c17
def grammarparser_value_c19 : AC := .seq grammarparser_value_c1 grammarparser_value_c18
@[simp] theorem grammarparser_value_c19_eq {K : AK} {env : Env} {H : AHeap} : aw PP grammarparser_value_c19 K env H = aw PP grammarparser_value_c1 (seqK PP grammarparser_value_c18 K) env H := aw_seq grammarparser_value_c1 grammarparser_value_c18
def grammarparser_value_c20 : AC := .seq grammarparser_value_c0 grammarparser_value_c19
@[simp] theorem grammarparser_value_c20_eq {K : AK} {env : Env} {H : AHeap} : aw PP grammarparser_value_c20 K env H = aw PP grammarparser_value_c0 (seqK PP grammarparser_value_c19 K) env H := aw_seq grammarparser_value_c0 grammarparser_value_c19
def grammarparser_value_ac : AC := grammarparser_value_c20
@[simp] theorem grammarparser_value_ac_eq {K : AK} {env : Env} {H : AHeap} : aw PP grammarparser_value_ac K env H = aw PP grammarparser_value_c20 K env H := Eq.trans rfl rfl
def grammarparser_value_rs : List ARV := [.tmp 2]
abbrev grammarparser_value_id : Nat := 71
theorem grammarparser_value_comp : compF PP grammarparser_value_kl grammarparser_value_ow 1 Tryd.f71 = some (grammarparser_value_ac, grammarparser_value_rs) := by kernel_rfl
theorem grammarparser_value_enter {args : List AV} {H : AHeap} {post : ARes → AHeap → Prop} (ha : args.length = 1) (h : aw PP grammarparser_value_ac (retK grammarparser_value_rs post) (argEnv 0 args) H) : ACalls PP grammarparser_value_id args H post := .enterF Tryd.func71 PP_mix grammarparser_value_comp ha h

/-! (*emendate.grammarparser.reader).peek -/
def grammarparser_reader_peek_kl : Nat → List Nat
  | 1 => [3, 4, 5, 6, 7]
  | 2 => [0, 8, 9, 10, 11, 12, 13]
  | 3 => [0, 8, 14, 15, 16, 17, 18, 19]
  | _ => []
def grammarparser_reader_peek_ow : Nat → Nat → Bool := fun _ _ => false
def grammarparser_reader_peek_c0 : AC := .reg [⟨some 2, none, .alloc (.struct [.int (.i64) 0, .str [], .bool false, .int (.i64) 0]) 100⟩] []
@[simp] theorem grammarparser_reader_peek_c0_eq {K : AK} {env : Env} {H : AHeap} : aw PP grammarparser_reader_peek_c0 K env H = awOps PP [⟨some 2, none, .alloc (.struct [.int (.i64) 0, .str [], .bool false, .int (.i64) 0]) 100⟩] (regK K []) (panK K) env H := aw_reg _ _
def grammarparser_reader_peek_c1 : AC := .reg [⟨some 3, none, .mov (.t 0)⟩, ⟨some 4, none, .nilc (.t 3)⟩, ⟨some 5, none, .fa 0 0 (.t 4)⟩, ⟨some 6, none, .ld false 1 (.t 5)⟩, ⟨some 7, none, .lenl (.t 6)⟩, ⟨some 8, none, .bin (.eql) (.t 7) (.c (.int (.i64) 0))⟩] [3, 4, 5, 6, 7]
@[simp] theorem grammarparser_reader_peek_c1_eq {K : AK} {env : Env} {H : AHeap} : aw PP grammarparser_reader_peek_c1 K env H = awOps PP [⟨some 3, none, .mov (.t 0)⟩, ⟨some 4, none, .nilc (.t 3)⟩, ⟨some 5, none, .fa 0 0 (.t 4)⟩, ⟨some 6, none, .ld false 1 (.t 5)⟩, ⟨some 7, none, .lenl (.t 6)⟩, ⟨some 8, none, .bin (.eql) (.t 7) (.c (.int (.i64) 0))⟩] (regK K [3, 4, 5, 6, 7]) (panK K) env H := aw_reg _ _
def grammarparser_reader_peek_c2 : AC := .reg [⟨some 9, none, .mov (.t 0)⟩, ⟨some 10, none, .nilc (.t 9)⟩, ⟨some 11, none, .fa 1 1 (.t 10)⟩, ⟨some 12, none, .ld false 1 (.t 11)⟩, ⟨some 13, none, .build [.int (.i64) 0, .str [], .bool false, .int (.i64) 0] [(0, .t 12), (3, .c (.int (.i64) (-1)))]⟩, ⟨none, none, .st 4 (.t 2) (.t 13)⟩] [0, 8, 9, 10, 11, 12, 13]
@[simp] theorem grammarparser_reader_peek_c2_eq {K : AK} {env : Env} {H : AHeap} : aw PP grammarparser_reader_peek_c2 K env H = awOps PP [⟨some 9, none, .mov (.t 0)⟩, ⟨some 10, none, .nilc (.t 9)⟩, ⟨some 11, none, .fa 1 1 (.t 10)⟩, ⟨some 12, none, .ld false 1 (.t 11)⟩, ⟨some 13, none, .build [.int (.i64) 0, .str [], .bool false, .int (.i64) 0] [(0, .t 12), (3, .c (.int (.i64) (-1)))]⟩, ⟨none, none, .st 4 (.t 2) (.t 13)⟩] (regK K [0, 8, 9, 10, 11, 12, 13]) (panK K) env H := aw_reg _ _
def grammarparser_reader_peek_c3 : AC := .seq grammarparser_reader_peek_c2 .ret
@[simp] theorem grammarparser_reader_peek_c3_eq {K : AK} {env : Env} {H : AHeap} : aw PP grammarparser_reader_peek_c3 K env H = aw PP grammarparser_reader_peek_c2 (seqK PP .ret K) env H := aw_seq grammarparser_reader_peek_c2 .ret
def grammarparser_reader_peek_c4 : AC := .cond (.t 8) grammarparser_reader_peek_c3 .skip
@[simp] theorem grammarparser_reader_peek_c4_eq {K : AK} {env : Env} {H : AHeap} : aw PP grammarparser_reader_peek_c4 K env H = condQ PP (Opd.ev env (.t 8)) grammarparser_reader_peek_c3 .skip K env H := aw_cond _ grammarparser_reader_peek_c3 .skip
def grammarparser_reader_peek_c5 : AC := .seq grammarparser_reader_peek_c1 grammarparser_reader_peek_c4
@[simp] theorem grammarparser_reader_peek_c5_eq {K : AK} {env : Env} {H : AHeap} : aw PP grammarparser_reader_peek_c5 K env H = aw PP grammarparser_reader_peek_c1 (seqK PP grammarparser_reader_peek_c4 K) env H := aw_seq grammarparser_reader_peek_c1 grammarparser_reader_peek_c4
def grammarparser_reader_peek_c6 : AC := .reg [⟨some 14, none, .mov (.t 0)⟩, ⟨some 15, none, .nilc (.t 14)⟩, ⟨some 16, none, .fa 0 0 (.t 15)⟩, ⟨some 17, none, .ld false 1 (.t 16)⟩, ⟨some 18, none, .ixa 4 (.t 17) (.c (.int (.i64) 0))⟩, ⟨some 19, none, .ld true 4 (.t 18)⟩, ⟨none, none, .st 4 (.t 2) (.t 19)⟩] [0, 8, 14, 15, 16, 17, 18, 19]
@[simp] theorem grammarparser_reader_peek_c6_eq {K : AK} {env : Env} {H : AHeap} : aw PP grammarparser_reader_peek_c6 K env H = awOps PP [⟨some 14, none, .mov (.t 0)⟩, ⟨some 15, none, .nilc (.t 14)⟩, ⟨some 16, none, .fa 0 0 (.t 15)⟩, ⟨some 17, none, .ld false 1 (.t 16)⟩, ⟨some 18, none, .ixa 4 (.t 17) (.c (.int (.i64) 0))⟩, ⟨some 19, none, .ld true 4 (.t 18)⟩, ⟨none, none, .st 4 (.t 2) (.t 19)⟩] (regK K [0, 8, 14, 15, 16, 17, 18, 19]) (panK K) env H := aw_reg _ _
def grammarparser_reader_peek_c7 : AC := .seq grammarparser_reader_peek_c6 .ret
@[simp] theorem grammarparser_reader_peek_c7_eq {K : AK} {env : Env} {H : AHeap} : aw PP grammarparser_reader_peek_c7 K env H = aw PP grammarparser_reader_peek_c6 (seqK PP .ret K) env H := aw_seq grammarparser_reader_peek_c6 .ret
def grammarparser_reader_peek_c8 : AC := .seq grammarparser_reader_peek_c5 grammarparser_reader_peek_c7
@[simp] theorem grammarparser_reader_peek_c8_eq {K : AK} {env : Env} {H : AHeap} : aw PP grammarparser_reader_peek_c8 K env H = aw PP grammarparser_reader_peek_c5 (seqK PP grammarparser_reader_peek_c7 K) env H := aw_seq grammarparser_reader_peek_c5 grammarparser_reader_peek_c7
def grammarparser_reader_peek_c9 : AC := .seq grammarparser_reader_peek_c0 grammarparser_reader_peek_c8
@[simp] theorem grammarparser_reader_peek_c9_eq {K : AK} {env : Env} {H : AHeap} : aw PP grammarparser_reader_peek_c9 K env H = aw PP grammarparser_reader_peek_c0 (seqK PP grammarparser_reader_peek_c8 K) env H := aw_seq grammarparser_reader_peek_c0 grammarparser_reader_peek_c8
def grammarparser_reader_peek_ac : AC := grammarparser_reader_peek_c9
@[simp] theorem grammarparser_reader_peek_ac_eq {K : AK} {env : Env} {H : AHeap} : aw PP grammarparser_reader_peek_ac K env H = aw PP grammarparser_reader_peek_c9 K env H := Eq.trans rfl rfl
def grammarparser_reader_peek_rs : List ARV := [.cell 2 true 4]
abbrev grammarparser_reader_peek_id : Nat := 72
theorem grammarparser_reader_peek_comp : compF PP grammarparser_reader_peek_kl grammarparser_reader_peek_ow 1 Tryd.f72 = some (grammarparser_reader_peek_ac, grammarparser_reader_peek_rs) := by kernel_rfl
theorem grammarparser_reader_peek_enter {args : List AV} {H : AHeap} {post : ARes → AHeap → Prop} (ha : args.length = 1) (h : aw PP grammarparser_reader_peek_ac (retK grammarparser_reader_peek_rs post) (argEnv 0 args) H) : ACalls PP grammarparser_reader_peek_id args H post := .enterF Tryd.func72 PP_mix grammarparser_reader_peek_comp ha h

/-! (*emendate.grammarparser.reader).fail -/
def grammarparser_reader_fail_kl : Nat → List Nat
  | 0 => [0, 2, 3, 4, 5]
  | _ => []
def grammarparser_reader_fail_ow : Nat → Nat → Bool := fun _ _ => false
def grammarparser_reader_fail_c0 : AC := .reg [⟨some 2, none, .mov (.t 0)⟩, ⟨some 3, none, .call (.c (.fn (.func 72) [] [])) [.t 2]⟩, ⟨some 4, none, .fld 0 0 1 false (.t 3)⟩, ⟨some 5, none, .mkif 80 (.t 4)⟩, ⟨none, none, .pan (.t 5)⟩] [0, 2, 3, 4, 5]
@[simp] theorem grammarparser_reader_fail_c0_eq {K : AK} {env : Env} {H : AHeap} : aw PP grammarparser_reader_fail_c0 K env H = awOps PP [⟨some 2, none, .mov (.t 0)⟩, ⟨some 3, none, .call (.c (.fn (.func 72) [] [])) [.t 2]⟩, ⟨some 4, none, .fld 0 0 1 false (.t 3)⟩, ⟨some 5, none, .mkif 80 (.t 4)⟩, ⟨none, none, .pan (.t 5)⟩] (regK K [0, 2, 3, 4, 5]) (panK K) env H := aw_reg _ _
def grammarparser_reader_fail_ac : AC := grammarparser_reader_fail_c0
@[simp] theorem grammarparser_reader_fail_ac_eq {K : AK} {env : Env} {H : AHeap} : aw PP grammarparser_reader_fail_ac K env H = aw PP grammarparser_reader_fail_c0 K env H := Eq.trans rfl rfl
def grammarparser_reader_fail_rs : List ARV := []
abbrev grammarparser_reader_fail_id : Nat := 73
theorem grammarparser_reader_fail_comp : compF PP grammarparser_reader_fail_kl grammarparser_reader_fail_ow 1 Tryd.f73 = some (grammarparser_reader_fail_ac, grammarparser_reader_fail_rs) := by kernel_rfl
theorem grammarparser_reader_fail_enter {args : List AV} {H : AHeap} {post : ARes → AHeap → Prop} (ha : args.length = 1) (h : aw PP grammarparser_reader_fail_ac (retK grammarparser_reader_fail_rs post) (argEnv 0 args) H) : ACalls PP grammarparser_reader_fail_id args H post := .enterF Tryd.func73 PP_mix grammarparser_reader_fail_comp ha h

/-! (*emendate.grammarparser.reader).next -/
def grammarparser_reader_next_kl : Nat → List Nat
  | 1 => [4, 5]
  | 2 => [0, 6, 7, 8, 9, 10, 11, 12, 13]
  | 3 => [3, 14]
  | _ => []
def grammarparser_reader_next_ow : Nat → Nat → Bool := fun _ _ => false
def grammarparser_reader_next_c0 : AC := .reg [⟨some 2, none, .alloc (.struct [.int (.i64) 0, .str [], .bool false, .int (.i64) 0]) 100⟩] []
@[simp] theorem grammarparser_reader_next_c0_eq {K : AK} {env : Env} {H : AHeap} : aw PP grammarparser_reader_next_c0 K env H = awOps PP [⟨some 2, none, .alloc (.struct [.int (.i64) 0, .str [], .bool false, .int (.i64) 0]) 100⟩] (regK K []) (panK K) env H := aw_reg _ _
def grammarparser_reader_next_c1 : AC := .reg [⟨some 4, none, .mov (.t 0)⟩, ⟨some 5, none, .call (.c (.fn (.func 72) [] [])) [.t 4]⟩, ⟨some 3, none, .alloc (.struct [.int (.i64) 0, .str [], .bool false, .int (.i64) 0]) 100⟩, ⟨none, none, .st 4 (.t 3) (.t 5)⟩] [4, 5]
@[simp] theorem grammarparser_reader_next_c1_eq {K : AK} {env : Env} {H : AHeap} : aw PP grammarparser_reader_next_c1 K env H = awOps PP [⟨some 4, none, .mov (.t 0)⟩, ⟨some 5, none, .call (.c (.fn (.func 72) [] [])) [.t 4]⟩, ⟨some 3, none, .alloc (.struct [.int (.i64) 0, .str [], .bool false, .int (.i64) 0]) 100⟩, ⟨none, none, .st 4 (.t 3) (.t 5)⟩] (regK K [4, 5]) (panK K) env H := aw_reg _ _
def grammarparser_reader_next_c2 : AC := .reg [⟨some 6, none, .mov (.t 0)⟩, ⟨some 7, none, .mov (.t 0)⟩, ⟨some 8, none, .nilc (.t 7)⟩, ⟨some 9, none, .fa 0 0 (.t 8)⟩, ⟨some 10, none, .ld false 1 (.t 9)⟩, ⟨some 11, none, .sll 4 (.t 10) (some (.c (.int (.i64) 1))) none⟩, ⟨some 12, none, .nilc (.t 6)⟩, ⟨some 13, none, .fa 0 0 (.t 12)⟩, ⟨none, none, .st 1 (.t 13) (.t 11)⟩] [0, 6, 7, 8, 9, 10, 11, 12, 13]
@[simp] theorem grammarparser_reader_next_c2_eq {K : AK} {env : Env} {H : AHeap} : aw PP grammarparser_reader_next_c2 K env H = awOps PP [⟨some 6, none, .mov (.t 0)⟩, ⟨some 7, none, .mov (.t 0)⟩, ⟨some 8, none, .nilc (.t 7)⟩, ⟨some 9, none, .fa 0 0 (.t 8)⟩, ⟨some 10, none, .ld false 1 (.t 9)⟩, ⟨some 11, none, .sll 4 (.t 10) (some (.c (.int (.i64) 1))) none⟩, ⟨some 12, none, .nilc (.t 6)⟩, ⟨some 13, none, .fa 0 0 (.t 12)⟩, ⟨none, none, .st 1 (.t 13) (.t 11)⟩] (regK K [0, 6, 7, 8, 9, 10, 11, 12, 13]) (panK K) env H := aw_reg _ _
def grammarparser_reader_next_c3 : AC := .reg [⟨some 14, none, .ld true 4 (.t 3)⟩, ⟨none, none, .st 4 (.t 2) (.t 14)⟩] [3, 14]
@[simp] theorem grammarparser_reader_next_c3_eq {K : AK} {env : Env} {H : AHeap} : aw PP grammarparser_reader_next_c3 K env H = awOps PP [⟨some 14, none, .ld true 4 (.t 3)⟩, ⟨none, none, .st 4 (.t 2) (.t 14)⟩] (regK K [3, 14]) (panK K) env H := aw_reg _ _
def grammarparser_reader_next_c4 : AC := .seq grammarparser_reader_next_c3 .ret
@[simp] theorem grammarparser_reader_next_c4_eq {K : AK} {env : Env} {H : AHeap} : aw PP grammarparser_reader_next_c4 K env H = aw PP grammarparser_reader_next_c3 (seqK PP .ret K) env H := aw_seq grammarparser_reader_next_c3 .ret
def grammarparser_reader_next_c5 : AC := .seq grammarparser_reader_next_c2 grammarparser_reader_next_c4
@[simp] theorem grammarparser_reader_next_c5_eq {K : AK} {env : Env} {H : AHeap} : aw PP grammarparser_reader_next_c5 K env H = aw PP grammarparser_reader_next_c2 (seqK PP grammarparser_reader_next_c4 K) env H := aw_seq grammarparser_reader_next_c2 grammarparser_reader_next_c4
def grammarparser_reader_next_c6 : AC := .seq grammarparser_reader_next_c1 grammarparser_reader_next_c5
@[simp] theorem grammarparser_reader_next_c6_eq {K : AK} {env : Env} {H : AHeap} : aw PP grammarparser_reader_next_c6 K env H = aw PP grammarparser_reader_next_c1 (seqK PP grammarparser_reader_next_c5 K) env H := aw_seq grammarparser_reader_next_c1 grammarparser_reader_next_c5
def grammarparser_reader_next_c7 : AC := .seq grammarparser_reader_next_c0 grammarparser_reader_next_c6
@[simp] theorem grammarparser_reader_next_c7_eq {K : AK} {env : Env} {H : AHeap} : aw PP grammarparser_reader_next_c7 K env H = aw PP grammarparser_reader_next_c0 (seqK PP grammarparser_reader_next_c6 K) env H := aw_seq grammarparser_reader_next_c0 grammarparser_reader_next_c6
def grammarparser_reader_next_ac : AC := grammarparser_reader_next_c7
@[simp] theorem grammarparser_reader_next_ac_eq {K : AK} {env : Env} {H : AHeap} : aw PP grammarparser_reader_next_ac K env H = aw PP grammarparser_reader_next_c7 K env H := Eq.trans rfl rfl
def grammarparser_reader_next_rs : List ARV := [.cell 2 true 4]
abbrev grammarparser_reader_next_id : Nat := 74
theorem grammarparser_reader_next_comp : compF PP grammarparser_reader_next_kl grammarparser_reader_next_ow 1 Tryd.f74 = some (grammarparser_reader_next_ac, grammarparser_reader_next_rs) := by kernel_rfl
theorem grammarparser_reader_next_enter {args : List AV} {H : AHeap} {post : ARes → AHeap → Prop} (ha : args.length = 1) (h : aw PP grammarparser_reader_next_ac (retK grammarparser_reader_next_rs post) (argEnv 0 args) H) : ACalls PP grammarparser_reader_next_id args H post := .enterF Tryd.func74 PP_mix grammarparser_reader_next_comp ha h

/-! emendate.grammarparser.reserved -/
def grammarparser_reserved_kl : Nat → List Nat
  | 0 => [2]
  | 1 => [0]
  | 2 => [5]
  | 3 => [6]
  | 4 => [7]
  | 5 => [8]
  | 6 => [3, 9]
  | 7 => [3, 4]
  | 8 => [3, 4]
  | _ => []
def grammarparser_reserved_ow : Nat → Nat → Bool := fun _ _ => false
def grammarparser_reserved_c0 : AC := .reg [⟨some 2, none, .mov (.c (.bool false))⟩] [2]
@[simp] theorem grammarparser_reserved_c0_eq {K : AK} {env : Env} {H : AHeap} : aw PP grammarparser_reserved_c0 K env H = awOps PP [⟨some 2, none, .mov (.c (.bool false))⟩] (regK K [2]) (panK K) env H := aw_reg _ _
def grammarparser_reserved_c1 : AC := .reg [⟨some 3, none, .mov (.t 0)⟩] [0]
@[simp] theorem grammarparser_reserved_c1_eq {K : AK} {env : Env} {H : AHeap} : aw PP grammarparser_reserved_c1 K env H = awOps PP [⟨some 3, none, .mov (.t 0)⟩] (regK K [0]) (panK K) env H := aw_reg _ _
def grammarparser_reserved_c2 : AC := .reg [⟨some 5, none, .bin (.eql) (.t 3) (.c (.str [115, 116, 97, 114, 116]))⟩, ⟨some 4, none, .mov (.t 5)⟩] [5]
@[simp] theorem grammarparser_reserved_c2_eq {K : AK} {env : Env} {H : AHeap} : aw PP grammarparser_reserved_c2 K env H = awOps PP [⟨some 5, none, .bin (.eql) (.t 3) (.c (.str [115, 116, 97, 114, 116]))⟩, ⟨some 4, none, .mov (.t 5)⟩] (regK K [5]) (panK K) env H := aw_reg _ _
def grammarparser_reserved_c3 : AC := .reg [⟨some 6, none, .bin (.eql) (.t 3) (.c (.str [108, 101, 102, 116]))⟩, ⟨some 4, none, .mov (.t 6)⟩] [6]
@[simp] theorem grammarparser_reserved_c3_eq {K : AK} {env : Env} {H : AHeap} : aw PP grammarparser_reserved_c3 K env H = awOps PP [⟨some 6, none, .bin (.eql) (.t 3) (.c (.str [108, 101, 102, 116]))⟩, ⟨some 4, none, .mov (.t 6)⟩] (regK K [6]) (panK K) env H := aw_reg _ _
def grammarparser_reserved_c4 : AC := .reg [⟨some 7, none, .bin (.eql) (.t 3) (.c (.str [114, 105, 103, 104, 116]))⟩, ⟨some 4, none, .mov (.t 7)⟩] [7]
@[simp] theorem grammarparser_reserved_c4_eq {K : AK} {env : Env} {H : AHeap} : aw PP grammarparser_reserved_c4 K env H = awOps PP [⟨some 7, none, .bin (.eql) (.t 3) (.c (.str [114, 105, 103, 104, 116]))⟩, ⟨some 4, none, .mov (.t 7)⟩] (regK K [7]) (panK K) env H := aw_reg _ _
def grammarparser_reserved_c5 : AC := .reg [⟨some 8, none, .bin (.eql) (.t 3) (.c (.str [110, 111, 110, 101]))⟩, ⟨some 4, none, .mov (.t 8)⟩] [8]
@[simp] theorem grammarparser_reserved_c5_eq {K : AK} {env : Env} {H : AHeap} : aw PP grammarparser_reserved_c5 K env H = awOps PP [⟨some 8, none, .bin (.eql) (.t 3) (.c (.str [110, 111, 110, 101]))⟩, ⟨some 4, none, .mov (.t 8)⟩] (regK K [8]) (panK K) env H := aw_reg _ _
def grammarparser_reserved_c6 : AC := .reg [⟨some 9, none, .bin (.eql) (.t 3) (.c (.str [112, 114, 105, 99, 101]))⟩, ⟨some 4, none, .mov (.t 9)⟩] [3, 9]
@[simp] theorem grammarparser_reserved_c6_eq {K : AK} {env : Env} {H : AHeap} : aw PP grammarparser_reserved_c6 K env H = awOps PP [⟨some 9, none, .bin (.eql) (.t 3) (.c (.str [112, 114, 105, 99, 101]))⟩, ⟨some 4, none, .mov (.t 9)⟩] (regK K [3, 9]) (panK K) env H := aw_reg _ _
def grammarparser_reserved_c7 : AC := .cond (.t 4) .skip grammarparser_reserved_c6
@[simp] theorem grammarparser_reserved_c7_eq {K : AK} {env : Env} {H : AHeap} : aw PP grammarparser_reserved_c7 K env H = condQ PP (Opd.ev env (.t 4)) .skip grammarparser_reserved_c6 K env H := aw_cond _ .skip grammarparser_reserved_c6
def grammarparser_reserved_c8 : AC := .seq grammarparser_reserved_c5 grammarparser_reserved_c7
@[simp] theorem grammarparser_reserved_c8_eq {K : AK} {env : Env} {H : AHeap} : aw PP grammarparser_reserved_c8 K env H = aw PP grammarparser_reserved_c5 (seqK PP grammarparser_reserved_c7 K) env H := aw_seq grammarparser_reserved_c5 grammarparser_reserved_c7
def grammarparser_reserved_c9 : AC := .cond (.t 4) .skip grammarparser_reserved_c8
@[simp] theorem grammarparser_reserved_c9_eq {K : AK} {env : Env} {H : AHeap} : aw PP grammarparser_reserved_c9 K env H = condQ PP (Opd.ev env (.t 4)) .skip grammarparser_reserved_c8 K env H := aw_cond _ .skip grammarparser_reserved_c8
def grammarparser_reserved_c10 : AC := .seq grammarparser_reserved_c4 grammarparser_reserved_c9
@[simp] theorem grammarparser_reserved_c10_eq {K : AK} {env : Env} {H : AHeap} : aw PP grammarparser_reserved_c10 K env H = aw PP grammarparser_reserved_c4 (seqK PP grammarparser_reserved_c9 K) env H := aw_seq grammarparser_reserved_c4 grammarparser_reserved_c9
def grammarparser_reserved_c11 : AC := .cond (.t 4) .skip grammarparser_reserved_c10
@[simp] theorem grammarparser_reserved_c11_eq {K : AK} {env : Env} {H : AHeap} : aw PP grammarparser_reserved_c11 K env H = condQ PP (Opd.ev env (.t 4)) .skip grammarparser_reserved_c10 K env H := aw_cond _ .skip grammarparser_reserved_c10
def grammarparser_reserved_c12 : AC := .seq grammarparser_reserved_c3 grammarparser_reserved_c11
@[simp] theorem grammarparser_reserved_c12_eq {K : AK} {env : Env} {H : AHeap} : aw PP grammarparser_reserved_c12 K env H = aw PP grammarparser_reserved_c3 (seqK PP grammarparser_reserved_c11 K) env H := aw_seq grammarparser_reserved_c3 grammarparser_reserved_c11
def grammarparser_reserved_c13 : AC := .cond (.t 4) .skip grammarparser_reserved_c12
@[simp] theorem grammarparser_reserved_c13_eq {K : AK} {env : Env} {H : AHeap} : aw PP grammarparser_reserved_c13 K env H = condQ PP (Opd.ev env (.t 4)) .skip grammarparser_reserved_c12 K env H := aw_cond _ .skip grammarparser_reserved_c12
def grammarparser_reserved_c14 : AC := .seq grammarparser_reserved_c2 grammarparser_reserved_c13
@[simp] theorem grammarparser_reserved_c14_eq {K : AK} {env : Env} {H : AHeap} : aw PP grammarparser_reserved_c14 K env H = aw PP grammarparser_reserved_c2 (seqK PP grammarparser_reserved_c13 K) env H := aw_seq grammarparser_reserved_c2 grammarparser_reserved_c13
def grammarparser_reserved_c15 : AC := .reg [⟨some 2, none, .mov (.c (.bool true))⟩] [3, 4]
@[simp] theorem grammarparser_reserved_c15_eq {K : AK} {env : Env} {H : AHeap} : aw PP grammarparser_reserved_c15 K env H = awOps PP [⟨some 2, none, .mov (.c (.bool true))⟩] (regK K [3, 4]) (panK K) env H := aw_reg _ _
def grammarparser_reserved_c16 : AC := .seq grammarparser_reserved_c15 .ret
@[simp] theorem grammarparser_reserved_c16_eq {K : AK} {env : Env} {H : AHeap} : aw PP grammarparser_reserved_c16 K env H = aw PP grammarparser_reserved_c15 (seqK PP .ret K) env H := aw_seq grammarparser_reserved_c15 .ret
def grammarparser_reserved_c17 : AC := .cond (.t 4) grammarparser_reserved_c16 .skip
@[simp] theorem grammarparser_reserved_c17_eq {K : AK} {env : Env} {H : AHeap} : aw PP grammarparser_reserved_c17 K env H = condQ PP (Opd.ev env (.t 4)) grammarparser_reserved_c16 .skip K env H := aw_cond _ grammarparser_reserved_c16 .skip
def grammarparser_reserved_c18 : AC := .seq grammarparser_reserved_c14 grammarparser_reserved_c17
@[simp] theorem grammarparser_reserved_c18_eq {K : AK} {env : Env} {H : AHeap} : aw PP grammarparser_reserved_c18 K env H = aw PP grammarparser_reserved_c14 (seqK PP grammarparser_reserved_c17 K) env H := aw_seq grammarparser_reserved_c14 grammarparser_reserved_c17
def grammarparser_reserved_c19 : AC := .block 0 grammarparser_reserved_c18
@[simp] theorem grammarparser_reserved_c19_eq {K : AK} {env : Env} {H : AHeap} : aw PP grammarparser_reserved_c19 K env H = aw PP grammarparser_reserved_c18 (blockK 0 K) env H := aw_block _ grammarparser_reserved_c18
def grammarparser_reserved_c20 : AC := .seq grammarparser_reserved_c1 grammarparser_reserved_c19
@[simp] theorem grammarparser_reserved_c20_eq {K : AK} {env : Env} {H : AHeap} : aw PP grammarparser_reserved_c20 K env H = aw PP grammarparser_reserved_c1 (seqK PP grammarparser_reserved_c19 K) env H := aw_seq grammarparser_reserved_c1 grammarparser_reserved_c19
def grammarparser_reserved_c21 : AC := .reg [⟨some 2, none, .mov (.c (.bool false))⟩] [3, 4]
@[simp] theorem grammarparser_reserved_c21_eq {K : AK} {env : Env} {H : AHeap} : aw PP grammarparser_reserved_c21 K env H = awOps PP [⟨some 2, none, .mov (.c (.bool false))⟩] (regK K [3, 4]) (panK K) env H := aw_reg _ _
def grammarparser_reserved_c22 : AC := .seq grammarparser_reserved_c21 .ret
@[simp] theorem grammarparser_reserved_c22_eq {K : AK} {env : Env} {H : AHeap} : aw PP grammarparser_reserved_c22 K env H = aw PP grammarparser_reserved_c21 (seqK PP .ret K) env H := aw_seq grammarparser_reserved_c21 .ret
def grammarparser_reserved_c23 : AC := .seq grammarparser_reserved_c20 grammarparser_reserved_c22
@[simp] theorem grammarparser_reserved_c23_eq {K : AK} {env : Env} {H : AHeap} : aw PP grammarparser_reserved_c23 K env H = aw PP grammarparser_reserved_c20 (seqK PP grammarparser_reserved_c22 K) env H := aw_seq grammarparser_reserved_c20 grammarparser_reserved_c22
def grammarparser_reserved_c24 : AC := .seq grammarparser_reserved_c0 grammarparser_reserved_c23
@[simp] theorem grammarparser_reserved_c24_eq {K : AK} {env : Env} {H : AHeap} : aw PP grammarparser_reserved_c24 K env H = aw PP grammarparser_reserved_c0 (seqK PP grammarparser_reserved_c23 K) env H := aw_seq grammarparser_reserved_c0 grammarparser_reserved_c23
def grammarparser_reserved_ac : AC := grammarparser_reserved_c24
@[simp] theorem grammarparser_reserved_ac_eq {K : AK} {env : Env} {H : AHeap} : aw PP grammarparser_reserved_ac K env H = aw PP grammarparser_reserved_c24 K env H := Eq.trans rfl rfl
def grammarparser_reserved_rs : List ARV := [.tmp 2]
abbrev grammarparser_reserved_id : Nat := 75
theorem grammarparser_reserved_comp : compF PP grammarparser_reserved_kl grammarparser_reserved_ow 1 Tryd.f75 = some (grammarparser_reserved_ac, grammarparser_reserved_rs) := by kernel_rfl
theorem grammarparser_reserved_enter {args : List AV} {H : AHeap} {post : ARes → AHeap → Prop} (ha : args.length = 1) (h : aw PP grammarparser_reserved_ac (retK grammarparser_reserved_rs post) (argEnv 0 args) H) : ACalls PP grammarparser_reserved_id args H post := .enterF Tryd.func75 PP_mix grammarparser_reserved_comp ha h

/-! (*emendate.grammarparser.reader).level -/
def grammarparser_reader_level_kl : Nat → List Nat
  | 1 => [6, 7]
  | 2 => [1, 8, 9, 10, 11, 12]
  | 3 => [13]
  | 4 => [14, 15, 16, 17, 18, 19, 20, 21]
  | 5 => [0, 14, 22, 23]
  | 6 => [5, 24]
  | _ => []
def grammarparser_reader_level_ow : Nat → Nat → Bool := fun a b => (a == 2 && b == 3)
def grammarparser_reader_level_c0 : AC := .reg [⟨some 4, none, .alloc (.struct [.int (.i64) 0, .nils]) 51⟩] []
@[simp] theorem grammarparser_reader_level_c0_eq {K : AK} {env : Env} {H : AHeap} : aw PP grammarparser_reader_level_c0 K env H = awOps PP [⟨some 4, none, .alloc (.struct [.int (.i64) 0, .nils]) 51⟩] (regK K []) (panK K) env H := aw_reg _ _
def grammarparser_reader_level_c1 : AC := .reg [⟨some 6, none, .mov (.t 0)⟩, ⟨some 7, none, .call (.c (.fn (.func 74) [] [])) [.t 6]⟩] [6, 7]
@[simp] theorem grammarparser_reader_level_c1_eq {K : AK} {env : Env} {H : AHeap} : aw PP grammarparser_reader_level_c1 K env H = awOps PP [⟨some 6, none, .mov (.t 0)⟩, ⟨some 7, none, .call (.c (.fn (.func 74) [] [])) [.t 6]⟩] (regK K [6, 7]) (panK K) env H := aw_reg _ _
def grammarparser_reader_level_c2 : AC := .reg [⟨some 8, none, .mov (.t 1)⟩, ⟨some 9, none, .mov (.t 0)⟩, ⟨some 10, none, .call (.c (.fn (.func 50) [] [])) [.t 9]⟩, ⟨some 11, none, .bsl true 9 1 1 (.str []) [(0, .t 10)]⟩, ⟨some 12, none, .build [.int (.i64) 0, .nils] [(0, .t 8), (1, .t 11)]⟩, ⟨some 5, none, .alloc (.struct [.int (.i64) 0, .nils]) 51⟩, ⟨none, none, .st 2 (.t 5) (.t 12)⟩] [1, 8, 9, 10, 11, 12]
@[simp] theorem grammarparser_reader_level_c2_eq {K : AK} {env : Env} {H : AHeap} : aw PP grammarparser_reader_level_c2 K env H = awOps PP [⟨some 8, none, .mov (.t 1)⟩, ⟨some 9, none, .mov (.t 0)⟩, ⟨some 10, none, .call (.c (.fn (.func 50) [] [])) [.t 9]⟩, ⟨some 11, none, .bsl true 9 1 1 (.str []) [(0, .t 10)]⟩, ⟨some 12, none, .build [.int (.i64) 0, .nils] [(0, .t 8), (1, .t 11)]⟩, ⟨some 5, none, .alloc (.struct [.int (.i64) 0, .nils]) 51⟩, ⟨none, none, .st 2 (.t 5) (.t 12)⟩] (regK K [1, 8, 9, 10, 11, 12]) (panK K) env H := aw_reg _ _
def grammarparser_reader_level_c3 : AC := .reg [⟨some 13, none, .mov (.t 0)⟩, ⟨some 14, none, .call (.c (.fn (.func 87) [] [])) [.t 13]⟩] [13]
@[simp] theorem grammarparser_reader_level_c3_eq {K : AK} {env : Env} {H : AHeap} : aw PP grammarparser_reader_level_c3 K env H = awOps PP [⟨some 13, none, .mov (.t 0)⟩, ⟨some 14, none, .call (.c (.fn (.func 87) [] [])) [.t 13]⟩] (regK K [13]) (panK K) env H := aw_reg _ _
def grammarparser_reader_level_c4 : AC := .cond (.t 14) .skip (.exit 0)
@[simp] theorem grammarparser_reader_level_c4_eq {K : AK} {env : Env} {H : AHeap} : aw PP grammarparser_reader_level_c4 K env H = condQ PP (Opd.ev env (.t 14)) .skip (.exit 0) K env H := aw_cond _ .skip (.exit 0)
def grammarparser_reader_level_c5 : AC := .seq grammarparser_reader_level_c3 grammarparser_reader_level_c4
@[simp] theorem grammarparser_reader_level_c5_eq {K : AK} {env : Env} {H : AHeap} : aw PP grammarparser_reader_level_c5 K env H = aw PP grammarparser_reader_level_c3 (seqK PP grammarparser_reader_level_c4 K) env H := aw_seq grammarparser_reader_level_c3 grammarparser_reader_level_c4
def grammarparser_reader_level_c6_ops : List (AI × List Nat) := [(⟨some 15, none, .fa 1 1 (.t 5)⟩, []), (⟨some 16, none, .ld false 1 (.t 15)⟩, [0]), (⟨some 17, none, .mov (.t 0)⟩, []), (⟨some 18, none, .call (.c (.fn (.func 50) [] [])) [.t 17]⟩, [2]), (⟨some 19, none, .bsl false 9 1 1 (.str []) [(0, .t 18)]⟩, [3]), (⟨some 20, none, .app 9 1 16 (.t 16) (.t 19)⟩, [1, 4, 3]), (⟨some 21, none, .fa 1 1 (.t 5)⟩, [0, 1, 2, 3, 4, 5]), (⟨none, none, .st 1 (.t 21) (.t 20)⟩, [6, 5, 5, 0, 1, 2, 3, 4, 5])]
def grammarparser_reader_level_c6 : AC := .dreg grammarparser_reader_level_c6_ops [14, 15, 16, 17, 18, 19, 20, 21]
theorem grammarparser_reader_level_c6_ok : lexOK grammarparser_reader_level_c6_ops (fun i => [5, 7].contains i) = true := by kernel_rfl
theorem grammarparser_reader_level_c6_lex {K : AK} {env : Env} {H : AHeap} (h : awLex PP (fun i => [5, 7].contains i) (regK K [14, 15, 16, 17, 18, 19, 20, 21]) (panK K) [(0, ⟨some 15, none, .fa 1 1 (.t 5)⟩), (1, ⟨some 16, none, .ld false 1 (.t 15)⟩), (2, ⟨some 17, none, .mov (.t 0)⟩), (3, ⟨some 18, none, .call (.c (.fn (.func 50) [] [])) [.t 17]⟩), (4, ⟨some 19, none, .bsl false 9 1 1 (.str []) [(0, .t 18)]⟩), (5, ⟨some 20, none, .app 9 1 16 (.t 16) (.t 19)⟩), (6, ⟨some 21, none, .fa 1 1 (.t 5)⟩), (7, ⟨none, none, .st 1 (.t 21) (.t 20)⟩)] env H) : aw PP grammarparser_reader_level_c6 K env H := aw_dreg_lex _ grammarparser_reader_level_c6_ok h
theorem grammarparser_reader_level_c6_okF : lexOKF grammarparser_reader_level_c6_ops 5 (fun i => [3, 5, 7].contains i) = true := by kernel_rfl
theorem grammarparser_reader_level_c6_lexF {K : AK} {env : Env} {H : AHeap} (B : List Nat) (h : awLexF PP 5 (fun i => [3, 5, 7].contains i) B H (regK K [14, 15, 16, 17, 18, 19, 20, 21]) (panK K) [(0, ⟨some 15, none, .fa 1 1 (.t 5)⟩), (1, ⟨some 16, none, .ld false 1 (.t 15)⟩), (2, ⟨some 17, none, .mov (.t 0)⟩), (3, ⟨some 18, none, .call (.c (.fn (.func 50) [] [])) [.t 17]⟩), (4, ⟨some 19, none, .bsl false 9 1 1 (.str []) [(0, .t 18)]⟩), (5, ⟨some 20, none, .app 9 1 16 (.t 16) (.t 19)⟩), (6, ⟨some 21, none, .fa 1 1 (.t 5)⟩), (7, ⟨none, none, .st 1 (.t 21) (.t 20)⟩)] env H) : aw PP grammarparser_reader_level_c6 K env H := aw_dreg_lexF _ _ B grammarparser_reader_level_c6_okF h
def grammarparser_reader_level_c7 : AC := .block 1 grammarparser_reader_level_c6
@[simp] theorem grammarparser_reader_level_c7_eq {K : AK} {env : Env} {H : AHeap} : aw PP grammarparser_reader_level_c7 K env H = aw PP grammarparser_reader_level_c6 (blockK 1 K) env H := aw_block _ grammarparser_reader_level_c6
def grammarparser_reader_level_c8 : AC := .seq grammarparser_reader_level_c5 grammarparser_reader_level_c7
@[simp] theorem grammarparser_reader_level_c8_eq {K : AK} {env : Env} {H : AHeap} : aw PP grammarparser_reader_level_c8 K env H = aw PP grammarparser_reader_level_c5 (seqK PP grammarparser_reader_level_c7 K) env H := aw_seq grammarparser_reader_level_c5 grammarparser_reader_level_c7
def grammarparser_reader_level_c9 : AC := .loop grammarparser_reader_level_c8
def grammarparser_reader_level_c10 : AC := .block 0 grammarparser_reader_level_c9
@[simp] theorem grammarparser_reader_level_c10_eq {K : AK} {env : Env} {H : AHeap} : aw PP grammarparser_reader_level_c10 K env H = aw PP grammarparser_reader_level_c9 (blockK 0 K) env H := aw_block _ grammarparser_reader_level_c9
def grammarparser_reader_level_c11 : AC := .reg [⟨some 22, none, .mov (.t 0)⟩, ⟨some 23, none, .call (.c (.fn (.func 49) [] [])) [.t 22, .c (.str [59])]⟩] [0, 14, 22, 23]
@[simp] theorem grammarparser_reader_level_c11_eq {K : AK} {env : Env} {H : AHeap} : aw PP grammarparser_reader_level_c11 K env H = awOps PP [⟨some 22, none, .mov (.t 0)⟩, ⟨some 23, none, .call (.c (.fn (.func 49) [] [])) [.t 22, .c (.str [59])]⟩] (regK K [0, 14, 22, 23]) (panK K) env H := aw_reg _ _
def grammarparser_reader_level_c12 : AC := .reg [⟨some 24, none, .ld true 2 (.t 5)⟩, ⟨none, none, .st 2 (.t 4) (.t 24)⟩] [5, 24]
@[simp] theorem grammarparser_reader_level_c12_eq {K : AK} {env : Env} {H : AHeap} : aw PP grammarparser_reader_level_c12 K env H = awOps PP [⟨some 24, none, .ld true 2 (.t 5)⟩, ⟨none, none, .st 2 (.t 4) (.t 24)⟩] (regK K [5, 24]) (panK K) env H := aw_reg _ _
def grammarparser_reader_level_c13 : AC := .seq grammarparser_reader_level_c12 .ret
@[simp] theorem grammarparser_reader_level_c13_eq {K : AK} {env : Env} {H : AHeap} : aw PP grammarparser_reader_level_c13 K env H = aw PP grammarparser_reader_level_c12 (seqK PP .ret K) env H := aw_seq grammarparser_reader_level_c12 .ret
def grammarparser_reader_level_c14 : AC := .seq grammarparser_reader_level_c11 grammarparser_reader_level_c13
@[simp] theorem grammarparser_reader_level_c14_eq {K : AK} {env : Env} {H : AHeap} : aw PP grammarparser_reader_level_c14 K env H = aw PP grammarparser_reader_level_c11 (seqK PP grammarparser_reader_level_c13 K) env H := aw_seq grammarparser_reader_level_c11 grammarparser_reader_level_c13
def grammarparser_reader_level_c15 : AC := .seq grammarparser_reader_level_c10 grammarparser_reader_level_c14
@[simp] theorem grammarparser_reader_level_c15_eq {K : AK} {env : Env} {H : AHeap} : aw PP grammarparser_reader_level_c15 K env H = aw PP grammarparser_reader_level_c10 (seqK PP grammarparser_reader_level_c14 K) env H := aw_seq grammarparser_reader_level_c10 grammarparser_reader_level_c14
def grammarparser_reader_level_c16 : AC := .seq grammarparser_reader_level_c2 grammarparser_reader_level_c15
@[simp] theorem grammarparser_reader_level_c16_eq {K : AK} {env : Env} {H : AHeap} : aw PP grammarparser_reader_level_c16 K env H = aw PP grammarparser_reader_level_c2 (seqK PP grammarparser_reader_level_c15 K) env H := aw_seq grammarparser_reader_level_c2 grammarparser_reader_level_c15
def grammarparser_reader_level_c17 : AC := .seq grammarparser_reader_level_c1 grammarparser_reader_level_c16
@[simp] theorem grammarparser_reader_level_c17_eq {K : AK} {env : Env} {H : AHeap} : aw PP grammarparser_reader_level_c17 K env H = aw PP grammarparser_reader_level_c1 (seqK PP grammarparser_reader_level_c16 K) env H := aw_seq grammarparser_reader_level_c1 grammarparser_reader_level_c16
def grammarparser_reader_level_c18 : AC := .seq grammarparser_reader_level_c0 grammarparser_reader_level_c17
@[simp] theorem grammarparser_reader_level_c18_eq {K : AK} {env : Env} {H : AHeap} : aw PP grammarparser_reader_level_c18 K env H = aw PP grammarparser_reader_level_c0 (seqK PP grammarparser_reader_level_c17 K) env H := aw_seq grammarparser_reader_level_c0 grammarparser_reader_level_c17
def grammarparser_reader_level_ac : AC := grammarparser_reader_level_c18
@[simp] theorem grammarparser_reader_level_ac_eq {K : AK} {env : Env} {H : AHeap} : aw PP grammarparser_reader_level_ac K env H = aw PP grammarparser_reader_level_c18 K env H := Eq.trans rfl rfl
def grammarparser_reader_level_rs : List ARV := [.cell 4 true 2]
abbrev grammarparser_reader_level_id : Nat := 76
theorem grammarparser_reader_level_comp : compF PP grammarparser_reader_level_kl grammarparser_reader_level_ow 2 Tryd.f76 = some (grammarparser_reader_level_ac, grammarparser_reader_level_rs) := by kernel_rfl
theorem grammarparser_reader_level_enter {args : List AV} {H : AHeap} {post : ARes → AHeap → Prop} (ha : args.length = 2) (h : aw PP grammarparser_reader_level_ac (retK grammarparser_reader_level_rs post) (argEnv 0 args) H) : ACalls PP grammarparser_reader_level_id args H post := .enterF Tryd.func76 PP_mix grammarparser_reader_level_comp ha h

/-! (*emendate.grammarparser.reader).alternative -/
def grammarparser_reader_alternative_kl : Nat → List Nat
  | 1 => [4, 5, 6]
  | 2 => [7, 8, 9]
  | 3 => [10, 11, 12]
  | 4 => [13, 14, 15]
  | 5 => [16, 17, 18]
  | 6 => [0, 16, 19, 20, 21, 22]
  | 7 => [0, 3, 10, 23]
  | _ => []
def grammarparser_reader_alternative_ow : Nat → Nat → Bool := fun _ _ => false
def grammarparser_reader_alternative_c0 : AC := .reg [⟨some 2, none, .alloc (.struct [.struct [.int (.i64) 0, .str [], .nils], .int (.i64) 0]) 38⟩] []
@[simp] theorem grammarparser_reader_alternative_c0_eq {K : AK} {env : Env} {H : AHeap} : aw PP grammarparser_reader_alternative_c0 K env H = awOps PP [⟨some 2, none, .alloc (.struct [.struct [.int (.i64) 0, .str [], .nils], .int (.i64) 0]) 38⟩] (regK K []) (panK K) env H := aw_reg _ _
def grammarparser_reader_alternative_c1 : AC := .reg [⟨some 4, none, .mov (.t 0)⟩, ⟨some 5, none, .call (.c (.fn (.func 88) [] [])) [.t 4]⟩, ⟨some 6, none, .build [.struct [.int (.i64) 0, .str [], .nils], .int (.i64) 0] [(0, .t 5)]⟩, ⟨some 3, none, .alloc (.struct [.struct [.int (.i64) 0, .str [], .nils], .int (.i64) 0]) 38⟩, ⟨none, none, .st 4 (.t 3) (.t 6)⟩] [4, 5, 6]
@[simp] theorem grammarparser_reader_alternative_c1_eq {K : AK} {env : Env} {H : AHeap} : aw PP grammarparser_reader_alternative_c1 K env H = awOps PP [⟨some 4, none, .mov (.t 0)⟩, ⟨some 5, none, .call (.c (.fn (.func 88) [] [])) [.t 4]⟩, ⟨some 6, none, .build [.struct [.int (.i64) 0, .str [], .nils], .int (.i64) 0] [(0, .t 5)]⟩, ⟨some 3, none, .alloc (.struct [.struct [.int (.i64) 0, .str [], .nils], .int (.i64) 0]) 38⟩, ⟨none, none, .st 4 (.t 3) (.t 6)⟩] (regK K [4, 5, 6]) (panK K) env H := aw_reg _ _
def grammarparser_reader_alternative_c2 : AC := .reg [⟨some 7, none, .mov (.t 0)⟩, ⟨some 8, none, .call (.c (.fn (.func 72) [] [])) [.t 7]⟩, ⟨some 9, none, .fld 1 1 1 false (.t 8)⟩, ⟨some 10, none, .bin (.eql) (.t 9) (.c (.str [112, 114, 105, 99, 101]))⟩] [7, 8, 9]
@[simp] theorem grammarparser_reader_alternative_c2_eq {K : AK} {env : Env} {H : AHeap} : aw PP grammarparser_reader_alternative_c2 K env H = awOps PP [⟨some 7, none, .mov (.t 0)⟩, ⟨some 8, none, .call (.c (.fn (.func 72) [] [])) [.t 7]⟩, ⟨some 9, none, .fld 1 1 1 false (.t 8)⟩, ⟨some 10, none, .bin (.eql) (.t 9) (.c (.str [112, 114, 105, 99, 101]))⟩] (regK K [7, 8, 9]) (panK K) env H := aw_reg _ _
def grammarparser_reader_alternative_c3 : AC := .reg [⟨some 11, none, .mov (.t 0)⟩, ⟨some 12, none, .call (.c (.fn (.func 74) [] [])) [.t 11]⟩] [10, 11, 12]
@[simp] theorem grammarparser_reader_alternative_c3_eq {K : AK} {env : Env} {H : AHeap} : aw PP grammarparser_reader_alternative_c3 K env H = awOps PP [⟨some 11, none, .mov (.t 0)⟩, ⟨some 12, none, .call (.c (.fn (.func 74) [] [])) [.t 11]⟩] (regK K [10, 11, 12]) (panK K) env H := aw_reg _ _
def grammarparser_reader_alternative_c4 : AC := .reg [⟨some 13, none, .mov (.t 0)⟩, ⟨some 14, none, .call (.c (.fn (.func 72) [] [])) [.t 13]⟩, ⟨some 15, none, .fld 3 3 1 false (.t 14)⟩, ⟨some 16, none, .bin (.lss) (.t 15) (.c (.int (.i64) 0))⟩] [13, 14, 15]
@[simp] theorem grammarparser_reader_alternative_c4_eq {K : AK} {env : Env} {H : AHeap} : aw PP grammarparser_reader_alternative_c4 K env H = awOps PP [⟨some 13, none, .mov (.t 0)⟩, ⟨some 14, none, .call (.c (.fn (.func 72) [] [])) [.t 13]⟩, ⟨some 15, none, .fld 3 3 1 false (.t 14)⟩, ⟨some 16, none, .bin (.lss) (.t 15) (.c (.int (.i64) 0))⟩] (regK K [13, 14, 15]) (panK K) env H := aw_reg _ _
def grammarparser_reader_alternative_c5 : AC := .reg [⟨some 17, none, .mov (.t 0)⟩, ⟨some 18, none, .call (.c (.fn (.func 73) [] [])) [.t 17]⟩] [16, 17, 18]
@[simp] theorem grammarparser_reader_alternative_c5_eq {K : AK} {env : Env} {H : AHeap} : aw PP grammarparser_reader_alternative_c5 K env H = awOps PP [⟨some 17, none, .mov (.t 0)⟩, ⟨some 18, none, .call (.c (.fn (.func 73) [] [])) [.t 17]⟩] (regK K [16, 17, 18]) (panK K) env H := aw_reg _ _
def grammarparser_reader_alternative_c6 : AC := .cond (.t 16) grammarparser_reader_alternative_c5 .skip
@[simp] theorem grammarparser_reader_alternative_c6_eq {K : AK} {env : Env} {H : AHeap} : aw PP grammarparser_reader_alternative_c6 K env H = condQ PP (Opd.ev env (.t 16)) grammarparser_reader_alternative_c5 .skip K env H := aw_cond _ grammarparser_reader_alternative_c5 .skip
def grammarparser_reader_alternative_c7 : AC := .seq grammarparser_reader_alternative_c4 grammarparser_reader_alternative_c6
@[simp] theorem grammarparser_reader_alternative_c7_eq {K : AK} {env : Env} {H : AHeap} : aw PP grammarparser_reader_alternative_c7 K env H = aw PP grammarparser_reader_alternative_c4 (seqK PP grammarparser_reader_alternative_c6 K) env H := aw_seq grammarparser_reader_alternative_c4 grammarparser_reader_alternative_c6
def grammarparser_reader_alternative_c8 : AC := .reg [⟨some 19, none, .mov (.t 0)⟩, ⟨some 20, none, .call (.c (.fn (.func 74) [] [])) [.t 19]⟩, ⟨some 21, none, .fld 3 3 1 false (.t 20)⟩, ⟨some 22, none, .fa 1 3 (.t 3)⟩, ⟨none, none, .st 1 (.t 22) (.t 21)⟩] [0, 16, 19, 20, 21, 22]
@[simp] theorem grammarparser_reader_alternative_c8_eq {K : AK} {env : Env} {H : AHeap} : aw PP grammarparser_reader_alternative_c8 K env H = awOps PP [⟨some 19, none, .mov (.t 0)⟩, ⟨some 20, none, .call (.c (.fn (.func 74) [] [])) [.t 19]⟩, ⟨some 21, none, .fld 3 3 1 false (.t 20)⟩, ⟨some 22, none, .fa 1 3 (.t 3)⟩, ⟨none, none, .st 1 (.t 22) (.t 21)⟩] (regK K [0, 16, 19, 20, 21, 22]) (panK K) env H := aw_reg _ _
def grammarparser_reader_alternative_c9 : AC := .seq grammarparser_reader_alternative_c7 grammarparser_reader_alternative_c8
@[simp] theorem grammarparser_reader_alternative_c9_eq {K : AK} {env : Env} {H : AHeap} : aw PP grammarparser_reader_alternative_c9 K env H = aw PP grammarparser_reader_alternative_c7 (seqK PP grammarparser_reader_alternative_c8 K) env H := aw_seq grammarparser_reader_alternative_c7 grammarparser_reader_alternative_c8
def grammarparser_reader_alternative_c10 : AC := .seq grammarparser_reader_alternative_c3 grammarparser_reader_alternative_c9
@[simp] theorem grammarparser_reader_alternative_c10_eq {K : AK} {env : Env} {H : AHeap} : aw PP grammarparser_reader_alternative_c10 K env H = aw PP grammarparser_reader_alternative_c3 (seqK PP grammarparser_reader_alternative_c9 K) env H := aw_seq grammarparser_reader_alternative_c3 grammarparser_reader_alternative_c9
def grammarparser_reader_alternative_c11 : AC := .cond (.t 10) grammarparser_reader_alternative_c10 .skip
@[simp] theorem grammarparser_reader_alternative_c11_eq {K : AK} {env : Env} {H : AHeap} : aw PP grammarparser_reader_alternative_c11 K env H = condQ PP (Opd.ev env (.t 10)) grammarparser_reader_alternative_c10 .skip K env H := aw_cond _ grammarparser_reader_alternative_c10 .skip
def grammarparser_reader_alternative_c12 : AC := .seq grammarparser_reader_alternative_c2 grammarparser_reader_alternative_c11
@[simp] theorem grammarparser_reader_alternative_c12_eq {K : AK} {env : Env} {H : AHeap} : aw PP grammarparser_reader_alternative_c12 K env H = aw PP grammarparser_reader_alternative_c2 (seqK PP grammarparser_reader_alternative_c11 K) env H := aw_seq grammarparser_reader_alternative_c2 grammarparser_reader_alternative_c11
def grammarparser_reader_alternative_c13 : AC := .reg [⟨some 23, none, .ld true 4 (.t 3)⟩, ⟨none, none, .st 4 (.t 2) (.t 23)⟩] [0, 3, 10, 23]
@[simp] theorem grammarparser_reader_alternative_c13_eq {K : AK} {env : Env} {H : AHeap} : aw PP grammarparser_reader_alternative_c13 K env H = awOps PP [⟨some 23, none, .ld true 4 (.t 3)⟩, ⟨none, none, .st 4 (.t 2) (.t 23)⟩] (regK K [0, 3, 10, 23]) (panK K) env H := aw_reg _ _
def grammarparser_reader_alternative_c14 : AC := .seq grammarparser_reader_alternative_c13 .ret
@[simp] theorem grammarparser_reader_alternative_c14_eq {K : AK} {env : Env} {H : AHeap} : aw PP grammarparser_reader_alternative_c14 K env H = aw PP grammarparser_reader_alternative_c13 (seqK PP .ret K) env H := aw_seq grammarparser_reader_alternative_c13 .ret
def grammarparser_reader_alternative_c15 : AC := .seq grammarparser_reader_alternative_c12 grammarparser_reader_alternative_c14
@[simp] theorem grammarparser_reader_alternative_c15_eq {K : AK} {env : Env} {H : AHeap} : aw PP grammarparser_reader_alternative_c15 K env H = aw PP grammarparser_reader_alternative_c12 (seqK PP grammarparser_reader_alternative_c14 K) env H := aw_seq grammarparser_reader_alternative_c12 grammarparser_reader_alternative_c14
def grammarparser_reader_alternative_c16 : AC := .seq grammarparser_reader_alternative_c1 grammarparser_reader_alternative_c15
@[simp] theorem grammarparser_reader_alternative_c16_eq {K : AK} {env : Env} {H : AHeap} : aw PP grammarparser_reader_alternative_c16 K env H = aw PP grammarparser_reader_alternative_c1 (seqK PP grammarparser_reader_alternative_c15 K) env H := aw_seq grammarparser_reader_alternative_c1 grammarparser_reader_alternative_c15
def grammarparser_reader_alternative_c17 : AC := .seq grammarparser_reader_alternative_c0 grammarparser_reader_alternative_c16
@[simp] theorem grammarparser_reader_alternative_c17_eq {K : AK} {env : Env} {H : AHeap} : aw PP grammarparser_reader_alternative_c17 K env H = aw PP grammarparser_reader_alternative_c0 (seqK PP grammarparser_reader_alternative_c16 K) env H := aw_seq grammarparser_reader_alternative_c0 grammarparser_reader_alternative_c16
def grammarparser_reader_alternative_ac : AC := grammarparser_reader_alternative_c17
@[simp] theorem grammarparser_reader_alternative_ac_eq {K : AK} {env : Env} {H : AHeap} : aw PP grammarparser_reader_alternative_ac K env H = aw PP grammarparser_reader_alternative_c17 K env H := Eq.trans rfl rfl
def grammarparser_reader_alternative_rs : List ARV := [.cell 2 true 4]
abbrev grammarparser_reader_alternative_id : Nat := 77
theorem grammarparser_reader_alternative_comp : compF PP grammarparser_reader_alternative_kl grammarparser_reader_alternative_ow 1 Tryd.f77 = some (grammarparser_reader_alternative_ac, grammarparser_reader_alternative_rs) := by kernel_rfl
theorem grammarparser_reader_alternative_enter {args : List AV} {H : AHeap} {post : ARes → AHeap → Prop} (ha : args.length = 1) (h : aw PP grammarparser_reader_alternative_ac (retK grammarparser_reader_alternative_rs post) (argEnv 0 args) H) : ACalls PP grammarparser_reader_alternative_id args H post := .enterF Tryd.func77 PP_mix grammarparser_reader_alternative_comp ha h

/-! slices.IndexFunc[[]emendate.api.GAlternative,emendate.api.GAlternative] -/
def slices_IndexFunc_GAlternative_kl : Nat → List Nat
  | 0 => [4]
  | 1 => [6]
  | 3 => [9, 10]
  | 4 => [11, 12, 13, 14, 15]
  | 5 => [0, 1, 5, 7, 8, 16, 17]
  | 6 => [5, 16, 18]
  | 7 => [0, 1, 7, 8, 9]
  | _ => []
def slices_IndexFunc_GAlternative_ow : Nat → Nat → Bool := fun _ _ => false
def slices_IndexFunc_GAlternative_c0 : AC := .reg [⟨some 4, none, .mov (.c (.int (.i64) 0))⟩] [4]
@[simp] theorem slices_IndexFunc_GAlternative_c0_eq {K : AK} {env : Env} {H : AHeap} : aw PP slices_IndexFunc_GAlternative_c0 K env H = awOps PP [⟨some 4, none, .mov (.c (.int (.i64) 0))⟩] (regK K [4]) (panK K) env H := aw_reg _ _
def slices_IndexFunc_GAlternative_c1 : AC := .reg [⟨some 6, none, .mov (.t 0)⟩, ⟨some 7, none, .lenl (.t 6)⟩, ⟨some 8, none, .mov (.c (.int (.i64) 0))⟩] [6]
@[simp] theorem slices_IndexFunc_GAlternative_c1_eq {K : AK} {env : Env} {H : AHeap} : aw PP slices_IndexFunc_GAlternative_c1 K env H = awOps PP [⟨some 6, none, .mov (.t 0)⟩, ⟨some 7, none, .lenl (.t 6)⟩, ⟨some 8, none, .mov (.c (.int (.i64) 0))⟩] (regK K [6]) (panK K) env H := aw_reg _ _
def slices_IndexFunc_GAlternative_c2 : AC := .reg [⟨some 9, none, .bin (.lss) (.t 8) (.t 7)⟩] []
@[simp] theorem slices_IndexFunc_GAlternative_c2_eq {K : AK} {env : Env} {H : AHeap} : aw PP slices_IndexFunc_GAlternative_c2 K env H = awOps PP [⟨some 9, none, .bin (.lss) (.t 8) (.t 7)⟩] (regK K []) (panK K) env H := aw_reg _ _
def slices_IndexFunc_GAlternative_c3 : AC := .cond (.t 9) .skip (.exit 0)
@[simp] theorem slices_IndexFunc_GAlternative_c3_eq {K : AK} {env : Env} {H : AHeap} : aw PP slices_IndexFunc_GAlternative_c3 K env H = condQ PP (Opd.ev env (.t 9)) .skip (.exit 0) K env H := aw_cond _ .skip (.exit 0)
def slices_IndexFunc_GAlternative_c4 : AC := .reg [⟨some 10, none, .mov (.t 8)⟩, ⟨some 5, none, .mov (.t 10)⟩] [9, 10]
@[simp] theorem slices_IndexFunc_GAlternative_c4_eq {K : AK} {env : Env} {H : AHeap} : aw PP slices_IndexFunc_GAlternative_c4 K env H = awOps PP [⟨some 10, none, .mov (.t 8)⟩, ⟨some 5, none, .mov (.t 10)⟩] (regK K [9, 10]) (panK K) env H := aw_reg _ _
def slices_IndexFunc_GAlternative_c5 : AC := .reg [⟨some 11, none, .mov (.t 1)⟩, ⟨some 12, none, .mov (.t 0)⟩, ⟨some 13, none, .mov (.t 5)⟩, ⟨some 14, none, .ixa 4 (.t 12) (.t 13)⟩, ⟨some 15, none, .ld true 4 (.t 14)⟩, ⟨some 16, none, .call (.t 11) [.t 15]⟩] [11, 12, 13, 14, 15]
@[simp] theorem slices_IndexFunc_GAlternative_c5_eq {K : AK} {env : Env} {H : AHeap} : aw PP slices_IndexFunc_GAlternative_c5 K env H = awOps PP [⟨some 11, none, .mov (.t 1)⟩, ⟨some 12, none, .mov (.t 0)⟩, ⟨some 13, none, .mov (.t 5)⟩, ⟨some 14, none, .ixa 4 (.t 12) (.t 13)⟩, ⟨some 15, none, .ld true 4 (.t 14)⟩, ⟨some 16, none, .call (.t 11) [.t 15]⟩] (regK K [11, 12, 13, 14, 15]) (panK K) env H := aw_reg _ _
def slices_IndexFunc_GAlternative_c6 : AC := .reg [⟨some 17, none, .mov (.t 5)⟩, ⟨some 4, none, .mov (.t 17)⟩] [0, 1, 5, 7, 8, 16, 17]
@[simp] theorem slices_IndexFunc_GAlternative_c6_eq {K : AK} {env : Env} {H : AHeap} : aw PP slices_IndexFunc_GAlternative_c6 K env H = awOps PP [⟨some 17, none, .mov (.t 5)⟩, ⟨some 4, none, .mov (.t 17)⟩] (regK K [0, 1, 5, 7, 8, 16, 17]) (panK K) env H := aw_reg _ _
def slices_IndexFunc_GAlternative_c7 : AC := .seq slices_IndexFunc_GAlternative_c6 .ret
@[simp] theorem slices_IndexFunc_GAlternative_c7_eq {K : AK} {env : Env} {H : AHeap} : aw PP slices_IndexFunc_GAlternative_c7 K env H = aw PP slices_IndexFunc_GAlternative_c6 (seqK PP .ret K) env H := aw_seq slices_IndexFunc_GAlternative_c6 .ret
def slices_IndexFunc_GAlternative_c8 : AC := .cond (.t 16) slices_IndexFunc_GAlternative_c7 .skip
@[simp] theorem slices_IndexFunc_GAlternative_c8_eq {K : AK} {env : Env} {H : AHeap} : aw PP slices_IndexFunc_GAlternative_c8 K env H = condQ PP (Opd.ev env (.t 16)) slices_IndexFunc_GAlternative_c7 .skip K env H := aw_cond _ slices_IndexFunc_GAlternative_c7 .skip
def slices_IndexFunc_GAlternative_c9 : AC := .seq slices_IndexFunc_GAlternative_c5 slices_IndexFunc_GAlternative_c8
@[simp] theorem slices_IndexFunc_GAlternative_c9_eq {K : AK} {env : Env} {H : AHeap} : aw PP slices_IndexFunc_GAlternative_c9 K env H = aw PP slices_IndexFunc_GAlternative_c5 (seqK PP slices_IndexFunc_GAlternative_c8 K) env H := aw_seq slices_IndexFunc_GAlternative_c5 slices_IndexFunc_GAlternative_c8
def slices_IndexFunc_GAlternative_c10 : AC := .seq slices_IndexFunc_GAlternative_c4 slices_IndexFunc_GAlternative_c9
@[simp] theorem slices_IndexFunc_GAlternative_c10_eq {K : AK} {env : Env} {H : AHeap} : aw PP slices_IndexFunc_GAlternative_c10 K env H = aw PP slices_IndexFunc_GAlternative_c4 (seqK PP slices_IndexFunc_GAlternative_c9 K) env H := aw_seq slices_IndexFunc_GAlternative_c4 slices_IndexFunc_GAlternative_c9
def slices_IndexFunc_GAlternative_c11 : AC := .block 1 slices_IndexFunc_GAlternative_c10
@[simp] theorem slices_IndexFunc_GAlternative_c11_eq {K : AK} {env : Env} {H : AHeap} : aw PP slices_IndexFunc_GAlternative_c11 K env H = aw PP slices_IndexFunc_GAlternative_c10 (blockK 1 K) env H := aw_block _ slices_IndexFunc_GAlternative_c10
def slices_IndexFunc_GAlternative_c12 : AC := .reg [⟨some 18, none, .bin (.add) (.t 8) (.c (.int (.i64) 1))⟩, ⟨some 8, none, .mov (.t 18)⟩] [5, 16, 18]
@[simp] theorem slices_IndexFunc_GAlternative_c12_eq {K : AK} {env : Env} {H : AHeap} : aw PP slices_IndexFunc_GAlternative_c12 K env H = awOps PP [⟨some 18, none, .bin (.add) (.t 8) (.c (.int (.i64) 1))⟩, ⟨some 8, none, .mov (.t 18)⟩] (regK K [5, 16, 18]) (panK K) env H := aw_reg _ _
def slices_IndexFunc_GAlternative_c13 : AC := .seq slices_IndexFunc_GAlternative_c11 slices_IndexFunc_GAlternative_c12
@[simp] theorem slices_IndexFunc_GAlternative_c13_eq {K : AK} {env : Env} {H : AHeap} : aw PP slices_IndexFunc_GAlternative_c13 K env H = aw PP slices_IndexFunc_GAlternative_c11 (seqK PP slices_IndexFunc_GAlternative_c12 K) env H := aw_seq slices_IndexFunc_GAlternative_c11 slices_IndexFunc_GAlternative_c12
def slices_IndexFunc_GAlternative_c14 : AC := .seq slices_IndexFunc_GAlternative_c3 slices_IndexFunc_GAlternative_c13
@[simp] theorem slices_IndexFunc_GAlternative_c14_eq {K : AK} {env : Env} {H : AHeap} : aw PP slices_IndexFunc_GAlternative_c14 K env H = aw PP slices_IndexFunc_GAlternative_c3 (seqK PP slices_IndexFunc_GAlternative_c13 K) env H := aw_seq slices_IndexFunc_GAlternative_c3 slices_IndexFunc_GAlternative_c13
def slices_IndexFunc_GAlternative_c15 : AC := .seq slices_IndexFunc_GAlternative_c2 slices_IndexFunc_GAlternative_c14
@[simp] theorem slices_IndexFunc_GAlternative_c15_eq {K : AK} {env : Env} {H : AHeap} : aw PP slices_IndexFunc_GAlternative_c15 K env H = aw PP slices_IndexFunc_GAlternative_c2 (seqK PP slices_IndexFunc_GAlternative_c14 K) env H := aw_seq slices_IndexFunc_GAlternative_c2 slices_IndexFunc_GAlternative_c14
def slices_IndexFunc_GAlternative_c16 : AC := .loop slices_IndexFunc_GAlternative_c15
def slices_IndexFunc_GAlternative_c17 : AC := .block 0 slices_IndexFunc_GAlternative_c16
@[simp] theorem slices_IndexFunc_GAlternative_c17_eq {K : AK} {env : Env} {H : AHeap} : aw PP slices_IndexFunc_GAlternative_c17 K env H = aw PP slices_IndexFunc_GAlternative_c16 (blockK 0 K) env H := aw_block _ slices_IndexFunc_GAlternative_c16
def slices_IndexFunc_GAlternative_c18 : AC := .seq slices_IndexFunc_GAlternative_c1 slices_IndexFunc_GAlternative_c17
@[simp] theorem slices_IndexFunc_GAlternative_c18_eq {K : AK} {env : Env} {H : AHeap} : aw PP slices_IndexFunc_GAlternative_c18 K env H = aw PP slices_IndexFunc_GAlternative_c1 (seqK PP slices_IndexFunc_GAlternative_c17 K) env H := aw_seq slices_IndexFunc_GAlternative_c1 slices_IndexFunc_GAlternative_c17
def slices_IndexFunc_GAlternative_c19 : AC := .reg [⟨some 4, none, .mov (.c (.int (.i64) (-1)))⟩] [0, 1, 7, 8, 9]
@[simp] theorem slices_IndexFunc_GAlternative_c19_eq {K : AK} {env : Env} {H : AHeap} : aw PP slices_IndexFunc_GAlternative_c19 K env H = awOps PP [⟨some 4, none, .mov (.c (.int (.i64) (-1)))⟩] (regK K [0, 1, 7, 8, 9]) (panK K) env H := aw_reg _ _
def slices_IndexFunc_GAlternative_c20 : AC := .seq slices_IndexFunc_GAlternative_c19 .ret
@[simp] theorem slices_IndexFunc_GAlternative_c20_eq {K : AK} {env : Env} {H : AHeap} : aw PP slices_IndexFunc_GAlternative_c20 K env H = aw PP slices_IndexFunc_GAlternative_c19 (seqK PP .ret K) env H := aw_seq slices_IndexFunc_GAlternative_c19 .ret
def slices_IndexFunc_GAlternative_c21 : AC := .seq slices_IndexFunc_GAlternative_c18 slices_IndexFunc_GAlternative_c20
@[simp] theorem slices_IndexFunc_GAlternative_c21_eq {K : AK} {env : Env} {H : AHeap} : aw PP slices_IndexFunc_GAlternative_c21 K env H = aw PP slices_IndexFunc_GAlternative_c18 (seqK PP slices_IndexFunc_GAlternative_c20 K) env H := aw_seq slices_IndexFunc_GAlternative_c18 slices_IndexFunc_GAlternative_c20
def slices_IndexFunc_GAlternative_c22 : AC := .seq slices_IndexFunc_GAlternative_c0 slices_IndexFunc_GAlternative_c21
@[simp] theorem slices_IndexFunc_GAlternative_c22_eq {K : AK} {env : Env} {H : AHeap} : aw PP slices_IndexFunc_GAlternative_c22 K env H = aw PP slices_IndexFunc_GAlternative_c0 (seqK PP slices_IndexFunc_GAlternative_c21 K) env H := aw_seq slices_IndexFunc_GAlternative_c0 slices_IndexFunc_GAlternative_c21
def slices_IndexFunc_GAlternative_ac : AC := slices_IndexFunc_GAlternative_c22
@[simp] theorem slices_IndexFunc_GAlternative_ac_eq {K : AK} {env : Env} {H : AHeap} : aw PP slices_IndexFunc_GAlternative_ac K env H = aw PP slices_IndexFunc_GAlternative_c22 K env H := Eq.trans rfl rfl
def slices_IndexFunc_GAlternative_rs : List ARV := [.tmp 4]
abbrev slices_IndexFunc_GAlternative_id : Nat := 78
theorem slices_IndexFunc_GAlternative_comp : compF PP slices_IndexFunc_GAlternative_kl slices_IndexFunc_GAlternative_ow 2 Tryd.f78 = some (slices_IndexFunc_GAlternative_ac, slices_IndexFunc_GAlternative_rs) := by kernel_rfl
theorem slices_IndexFunc_GAlternative_enter {args : List AV} {H : AHeap} {post : ARes → AHeap → Prop} (ha : args.length = 2) (h : aw PP slices_IndexFunc_GAlternative_ac (retK slices_IndexFunc_GAlternative_rs post) (argEnv 0 args) H) : ACalls PP slices_IndexFunc_GAlternative_id args H post := .enterF Tryd.func78 PP_mix slices_IndexFunc_GAlternative_comp ha h

/-! slices.ContainsFunc[[]emendate.api.GExpr,emendate.api.GExpr] -/
def slices_ContainsFunc_GExpr_kl : Nat → List Nat
  | 0 => [4]
  | 1 => [0, 1, 5, 6, 7, 8]
  | _ => []
def slices_ContainsFunc_GExpr_ow : Nat → Nat → Bool := fun _ _ => false
def slices_ContainsFunc_GExpr_c0 : AC := .reg [⟨some 4, none, .mov (.c (.bool false))⟩] [4]
@[simp] theorem slices_ContainsFunc_GExpr_c0_eq {K : AK} {env : Env} {H : AHeap} : aw PP slices_ContainsFunc_GExpr_c0 K env H = awOps PP [⟨some 4, none, .mov (.c (.bool false))⟩] (regK K [4]) (panK K) env H := aw_reg _ _
def slices_ContainsFunc_GExpr_c1 : AC := .reg [⟨some 5, none, .mov (.t 0)⟩, ⟨some 6, none, .mov (.t 1)⟩, ⟨some 7, none, .call (.c (.fn (.func 89) [] [])) [.t 5, .t 6]⟩, ⟨some 8, none, .bin (.geq) (.t 7) (.c (.int (.i64) 0))⟩, ⟨some 4, none, .mov (.t 8)⟩] [0, 1, 5, 6, 7, 8]
@[simp] theorem slices_ContainsFunc_GExpr_c1_eq {K : AK} {env : Env} {H : AHeap} : aw PP slices_ContainsFunc_GExpr_c1 K env H = awOps PP [⟨some 5, none, .mov (.t 0)⟩, ⟨some 6, none, .mov (.t 1)⟩, ⟨some 7, none, .call (.c (.fn (.func 89) [] [])) [.t 5, .t 6]⟩, ⟨some 8, none, .bin (.geq) (.t 7) (.c (.int (.i64) 0))⟩, ⟨some 4, none, .mov (.t 8)⟩] (regK K [0, 1, 5, 6, 7, 8]) (panK K) env H := aw_reg _ _
def slices_ContainsFunc_GExpr_c2 : AC := .seq slices_ContainsFunc_GExpr_c1 .ret
@[simp] theorem slices_ContainsFunc_GExpr_c2_eq {K : AK} {env : Env} {H : AHeap} : aw PP slices_ContainsFunc_GExpr_c2 K env H = aw PP slices_ContainsFunc_GExpr_c1 (seqK PP .ret K) env H := aw_seq slices_ContainsFunc_GExpr_c1 .ret
def slices_ContainsFunc_GExpr_c3 : AC := .seq slices_ContainsFunc_GExpr_c0 slices_ContainsFunc_GExpr_c2
@[simp] theorem slices_ContainsFunc_GExpr_c3_eq {K : AK} {env : Env} {H : AHeap} : aw PP slices_ContainsFunc_GExpr_c3 K env H = aw PP slices_ContainsFunc_GExpr_c0 (seqK PP slices_ContainsFunc_GExpr_c2 K) env H := aw_seq slices_ContainsFunc_GExpr_c0 slices_ContainsFunc_GExpr_c2
def slices_ContainsFunc_GExpr_ac : AC := slices_ContainsFunc_GExpr_c3
@[simp] theorem slices_ContainsFunc_GExpr_ac_eq {K : AK} {env : Env} {H : AHeap} : aw PP slices_ContainsFunc_GExpr_ac K env H = aw PP slices_ContainsFunc_GExpr_c3 K env H := Eq.trans rfl rfl
def slices_ContainsFunc_GExpr_rs : List ARV := [.tmp 4]
abbrev slices_ContainsFunc_GExpr_id : Nat := 79
theorem slices_ContainsFunc_GExpr_comp : compF PP slices_ContainsFunc_GExpr_kl slices_ContainsFunc_GExpr_ow 2 Tryd.f79 = some (slices_ContainsFunc_GExpr_ac, slices_ContainsFunc_GExpr_rs) := by kernel_rfl
theorem slices_ContainsFunc_GExpr_enter {args : List AV} {H : AHeap} {post : ARes → AHeap → Prop} (ha : args.length = 2) (h : aw PP slices_ContainsFunc_GExpr_ac (retK slices_ContainsFunc_GExpr_rs post) (argEnv 0 args) H) : ACalls PP slices_ContainsFunc_GExpr_id args H post := .enterF Tryd.func79 PP_mix slices_ContainsFunc_GExpr_comp ha h

end Go.Av
