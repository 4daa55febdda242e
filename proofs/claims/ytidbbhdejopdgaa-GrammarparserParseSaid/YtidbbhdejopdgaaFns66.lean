/- Functions of the given program, compiled to the own form by program. -/
import Derived.Test.YtidbbhdejopdgaaProg
import Derived.KernelRfl
import Derived.Test.YtidbbhdejopdgaaAvF
import Derived.Test.YtidbbhdejopdgaaFns1
set_option linter.unusedVariables false
set_option linter.unusedSimpArgs false
namespace Go.Av
open Go Go.Proofs
/-! (*emendate.grammarparser.reader).isName -/
def grammarparser_reader_isName_kl : Nat → List Nat
  | 0 => [2]
  | 1 => [0, 4, 5]
  | 2 => [3, 6, 7, 8, 9, 10, 11, 12, 13]
  | _ => []
def grammarparser_reader_isName_ow : Nat → Nat → Bool := fun _ _ => false
def grammarparser_reader_isName_c0 : AC := .reg [⟨some 2, none, .mov (.c (.bool false))⟩] [2]
@[simp] theorem grammarparser_reader_isName_c0_eq {K : AK} {env : Env} {H : AHeap} : aw PP grammarparser_reader_isName_c0 K env H = awOps PP [⟨some 2, none, .mov (.c (.bool false))⟩] (regK K [2]) (panK K) env H := aw_reg _ _
def grammarparser_reader_isName_c1 : AC := .reg [⟨some 4, none, .mov (.t 0)⟩, ⟨some 5, none, .call (.c (.fn (.func 53) [] [])) [.t 4]⟩, ⟨some 3, none, .alloc (.struct [.int (.i64) 0, .str [], .bool false, .int (.i64) 0]) 79⟩, ⟨none, none, .st 4 (.t 3) (.t 5)⟩] [0, 4, 5]
@[simp] theorem grammarparser_reader_isName_c1_eq {K : AK} {env : Env} {H : AHeap} : aw PP grammarparser_reader_isName_c1 K env H = awOps PP [⟨some 4, none, .mov (.t 0)⟩, ⟨some 5, none, .call (.c (.fn (.func 53) [] [])) [.t 4]⟩, ⟨some 3, none, .alloc (.struct [.int (.i64) 0, .str [], .bool false, .int (.i64) 0]) 79⟩, ⟨none, none, .st 4 (.t 3) (.t 5)⟩] (regK K [0, 4, 5]) (panK K) env H := aw_reg _ _
def grammarparser_reader_isName_c2 : AC := .reg [⟨some 6, none, .fa 2 2 (.t 3)⟩, ⟨some 7, none, .ld false 1 (.t 6)⟩, ⟨some 8, none, .mov (.t 7)⟩, ⟨some 9, some (8, true), .fa 1 1 (.t 3)⟩, ⟨some 10, some (8, true), .ld false 1 (.t 9)⟩, ⟨some 11, some (8, true), .call (.c (.fn (.func 56) [] [])) [.t 10]⟩, ⟨some 12, some (8, true), .not (.t 11)⟩, ⟨some 13, none, .pick (.t 8) (.t 12) (.c (.bool false))⟩, ⟨some 2, none, .mov (.t 13)⟩] [3, 6, 7, 8, 9, 10, 11, 12, 13]
@[simp] theorem grammarparser_reader_isName_c2_eq {K : AK} {env : Env} {H : AHeap} : aw PP grammarparser_reader_isName_c2 K env H = awOps PP [⟨some 6, none, .fa 2 2 (.t 3)⟩, ⟨some 7, none, .ld false 1 (.t 6)⟩, ⟨some 8, none, .mov (.t 7)⟩, ⟨some 9, some (8, true), .fa 1 1 (.t 3)⟩, ⟨some 10, some (8, true), .ld false 1 (.t 9)⟩, ⟨some 11, some (8, true), .call (.c (.fn (.func 56) [] [])) [.t 10]⟩, ⟨some 12, some (8, true), .not (.t 11)⟩, ⟨some 13, none, .pick (.t 8) (.t 12) (.c (.bool false))⟩, ⟨some 2, none, .mov (.t 13)⟩] (regK K [3, 6, 7, 8, 9, 10, 11, 12, 13]) (panK K) env H := aw_reg _ _
def grammarparser_reader_isName_c3 : AC := .seq grammarparser_reader_isName_c2 .ret
@[simp] theorem grammarparser_reader_isName_c3_eq {K : AK} {env : Env} {H : AHeap} : aw PP grammarparser_reader_isName_c3 K env H = aw PP grammarparser_reader_isName_c2 (seqK PP .ret K) env H := aw_seq grammarparser_reader_isName_c2 .ret
def grammarparser_reader_isName_c4 : AC := .seq grammarparser_reader_isName_c1 grammarparser_reader_isName_c3
@[simp] theorem grammarparser_reader_isName_c4_eq {K : AK} {env : Env} {H : AHeap} : aw PP grammarparser_reader_isName_c4 K env H = aw PP grammarparser_reader_isName_c1 (seqK PP grammarparser_reader_isName_c3 K) env H := aw_seq grammarparser_reader_isName_c1 grammarparser_reader_isName_c3
def grammarparser_reader_isName_c5 : AC := .seq grammarparser_reader_isName_c0 grammarparser_reader_isName_c4
@[simp] theorem grammarparser_reader_isName_c5_eq {K : AK} {env : Env} {H : AHeap} : aw PP grammarparser_reader_isName_c5 K env H = aw PP grammarparser_reader_isName_c0 (seqK PP grammarparser_reader_isName_c4 K) env H := aw_seq grammarparser_reader_isName_c0 grammarparser_reader_isName_c4
def grammarparser_reader_isName_ac : AC := grammarparser_reader_isName_c5
@[simp] theorem grammarparser_reader_isName_ac_eq {K : AK} {env : Env} {H : AHeap} : aw PP grammarparser_reader_isName_ac K env H = aw PP grammarparser_reader_isName_c5 K env H := Eq.trans rfl rfl
def grammarparser_reader_isName_rs : List ARV := [.tmp 2]
abbrev grammarparser_reader_isName_id : Nat := 69
theorem grammarparser_reader_isName_comp : compF PP grammarparser_reader_isName_kl grammarparser_reader_isName_ow 1 Try.f69 = some (grammarparser_reader_isName_ac, grammarparser_reader_isName_rs) := by kernel_rfl
theorem grammarparser_reader_isName_enter {args : List AV} {H : AHeap} {post : ARes → AHeap → Prop} (ha : args.length = 1) (h : aw PP grammarparser_reader_isName_ac (retK grammarparser_reader_isName_rs post) (argEnv 0 args) H) : ACalls PP grammarparser_reader_isName_id args H post := .enterF Try.func69 PP_mix grammarparser_reader_isName_comp ha h

/-! (*emendate.grammarparser.reader).sequence -/
def grammarparser_reader_sequence_kl : Nat → List Nat
  | 2 => [4, 5, 6, 7, 8, 9, 10]
  | 3 => [11, 12, 13, 14, 15, 16]
  | 4 => [0, 11, 17, 18]
  | 5 => [3, 19, 20, 21, 22]
  | 6 => [3, 19, 23, 24]
  | _ => []
def grammarparser_reader_sequence_ow : Nat → Nat → Bool := fun _ _ => false
def grammarparser_reader_sequence_c0 : AC := .reg [⟨some 2, none, .alloc (.struct [.int (.i64) 0, .str [], .nils]) 47⟩] []
@[simp] theorem grammarparser_reader_sequence_c0_eq {K : AK} {env : Env} {H : AHeap} : aw PP grammarparser_reader_sequence_c0 K env H = awOps PP [⟨some 2, none, .alloc (.struct [.int (.i64) 0, .str [], .nils]) 47⟩] (regK K []) (panK K) env H := aw_reg _ _
def grammarparser_reader_sequence_c1 : AC := .reg [⟨some 3, none, .mov (.c (.nils))⟩] []
@[simp] theorem grammarparser_reader_sequence_c1_eq {K : AK} {env : Env} {H : AHeap} : aw PP grammarparser_reader_sequence_c1 K env H = awOps PP [⟨some 3, none, .mov (.c (.nils))⟩] (regK K []) (panK K) env H := aw_reg _ _
def grammarparser_reader_sequence_c2 : AC := .reg [⟨some 4, none, .mov (.t 0)⟩, ⟨some 5, none, .call (.c (.fn (.func 69) [] [])) [.t 4]⟩, ⟨some 6, none, .mov (.t 5)⟩, ⟨some 7, some (6, false), .mov (.t 0)⟩, ⟨some 8, some (6, false), .call (.c (.fn (.func 53) [] [])) [.t 7]⟩, ⟨some 9, some (6, false), .fld 1 1 1 false (.t 8)⟩, ⟨some 10, some (6, false), .bin (.eql) (.t 9) (.c (.str [40]))⟩, ⟨some 11, none, .pick (.t 6) (.c (.bool true)) (.t 10)⟩] [4, 5, 6, 7, 8, 9, 10]
@[simp] theorem grammarparser_reader_sequence_c2_eq {K : AK} {env : Env} {H : AHeap} : aw PP grammarparser_reader_sequence_c2 K env H = awOps PP [⟨some 4, none, .mov (.t 0)⟩, ⟨some 5, none, .call (.c (.fn (.func 69) [] [])) [.t 4]⟩, ⟨some 6, none, .mov (.t 5)⟩, ⟨some 7, some (6, false), .mov (.t 0)⟩, ⟨some 8, some (6, false), .call (.c (.fn (.func 53) [] [])) [.t 7]⟩, ⟨some 9, some (6, false), .fld 1 1 1 false (.t 8)⟩, ⟨some 10, some (6, false), .bin (.eql) (.t 9) (.c (.str [40]))⟩, ⟨some 11, none, .pick (.t 6) (.c (.bool true)) (.t 10)⟩] (regK K [4, 5, 6, 7, 8, 9, 10]) (panK K) env H := aw_reg _ _
def grammarparser_reader_sequence_c3 : AC := .cond (.t 11) .skip (.exit 0)
@[simp] theorem grammarparser_reader_sequence_c3_eq {K : AK} {env : Env} {H : AHeap} : aw PP grammarparser_reader_sequence_c3 K env H = condQ PP (Opd.ev env (.t 11)) .skip (.exit 0) K env H := aw_cond _ .skip (.exit 0)
def grammarparser_reader_sequence_c4 : AC := .seq grammarparser_reader_sequence_c2 grammarparser_reader_sequence_c3
@[simp] theorem grammarparser_reader_sequence_c4_eq {K : AK} {env : Env} {H : AHeap} : aw PP grammarparser_reader_sequence_c4 K env H = aw PP grammarparser_reader_sequence_c2 (seqK PP grammarparser_reader_sequence_c3 K) env H := aw_seq grammarparser_reader_sequence_c2 grammarparser_reader_sequence_c3
def grammarparser_reader_sequence_c5 : AC := .reg [⟨some 12, none, .mov (.t 3)⟩, ⟨some 13, none, .mov (.t 0)⟩, ⟨some 14, none, .call (.c (.fn (.func 79) [] [])) [.t 13]⟩, ⟨some 15, none, .bsl false 47 3 1 (.struct [.int (.i64) 0, .str [], .nils]) [(0, .t 14)]⟩, ⟨some 16, none, .app 47 3 48 (.t 12) (.t 15)⟩, ⟨some 3, none, .mov (.t 16)⟩] [11, 12, 13, 14, 15, 16]
@[simp] theorem grammarparser_reader_sequence_c5_eq {K : AK} {env : Env} {H : AHeap} : aw PP grammarparser_reader_sequence_c5 K env H = awOps PP [⟨some 12, none, .mov (.t 3)⟩, ⟨some 13, none, .mov (.t 0)⟩, ⟨some 14, none, .call (.c (.fn (.func 79) [] [])) [.t 13]⟩, ⟨some 15, none, .bsl false 47 3 1 (.struct [.int (.i64) 0, .str [], .nils]) [(0, .t 14)]⟩, ⟨some 16, none, .app 47 3 48 (.t 12) (.t 15)⟩, ⟨some 3, none, .mov (.t 16)⟩] (regK K [11, 12, 13, 14, 15, 16]) (panK K) env H := aw_reg _ _
def grammarparser_reader_sequence_c6 : AC := .block 1 grammarparser_reader_sequence_c5
@[simp] theorem grammarparser_reader_sequence_c6_eq {K : AK} {env : Env} {H : AHeap} : aw PP grammarparser_reader_sequence_c6 K env H = aw PP grammarparser_reader_sequence_c5 (blockK 1 K) env H := aw_block _ grammarparser_reader_sequence_c5
def grammarparser_reader_sequence_c7 : AC := .seq grammarparser_reader_sequence_c4 grammarparser_reader_sequence_c6
@[simp] theorem grammarparser_reader_sequence_c7_eq {K : AK} {env : Env} {H : AHeap} : aw PP grammarparser_reader_sequence_c7 K env H = aw PP grammarparser_reader_sequence_c4 (seqK PP grammarparser_reader_sequence_c6 K) env H := aw_seq grammarparser_reader_sequence_c4 grammarparser_reader_sequence_c6
def grammarparser_reader_sequence_c8 : AC := .loop grammarparser_reader_sequence_c7
def grammarparser_reader_sequence_c9 : AC := .block 0 grammarparser_reader_sequence_c8
@[simp] theorem grammarparser_reader_sequence_c9_eq {K : AK} {env : Env} {H : AHeap} : aw PP grammarparser_reader_sequence_c9 K env H = aw PP grammarparser_reader_sequence_c8 (blockK 0 K) env H := aw_block _ grammarparser_reader_sequence_c8
def grammarparser_reader_sequence_c10 : AC := .reg [⟨some 17, none, .mov (.t 3)⟩, ⟨some 18, none, .lenl (.t 17)⟩, ⟨some 19, none, .bin (.eql) (.t 18) (.c (.int (.i64) 1))⟩] [0, 11, 17, 18]
@[simp] theorem grammarparser_reader_sequence_c10_eq {K : AK} {env : Env} {H : AHeap} : aw PP grammarparser_reader_sequence_c10 K env H = awOps PP [⟨some 17, none, .mov (.t 3)⟩, ⟨some 18, none, .lenl (.t 17)⟩, ⟨some 19, none, .bin (.eql) (.t 18) (.c (.int (.i64) 1))⟩] (regK K [0, 11, 17, 18]) (panK K) env H := aw_reg _ _
def grammarparser_reader_sequence_c11 : AC := .reg [⟨some 20, none, .mov (.t 3)⟩, ⟨some 21, none, .ixa 3 (.t 20) (.c (.int (.i64) 0))⟩, ⟨some 22, none, .ld true 3 (.t 21)⟩, ⟨none, none, .st 3 (.t 2) (.t 22)⟩] [3, 19, 20, 21, 22]
@[simp] theorem grammarparser_reader_sequence_c11_eq {K : AK} {env : Env} {H : AHeap} : aw PP grammarparser_reader_sequence_c11 K env H = awOps PP [⟨some 20, none, .mov (.t 3)⟩, ⟨some 21, none, .ixa 3 (.t 20) (.c (.int (.i64) 0))⟩, ⟨some 22, none, .ld true 3 (.t 21)⟩, ⟨none, none, .st 3 (.t 2) (.t 22)⟩] (regK K [3, 19, 20, 21, 22]) (panK K) env H := aw_reg _ _
def grammarparser_reader_sequence_c12 : AC := .seq grammarparser_reader_sequence_c11 .ret
@[simp] theorem grammarparser_reader_sequence_c12_eq {K : AK} {env : Env} {H : AHeap} : aw PP grammarparser_reader_sequence_c12 K env H = aw PP grammarparser_reader_sequence_c11 (seqK PP .ret K) env H := aw_seq grammarparser_reader_sequence_c11 .ret
def grammarparser_reader_sequence_c13 : AC := .cond (.t 19) grammarparser_reader_sequence_c12 .skip
@[simp] theorem grammarparser_reader_sequence_c13_eq {K : AK} {env : Env} {H : AHeap} : aw PP grammarparser_reader_sequence_c13 K env H = condQ PP (Opd.ev env (.t 19)) grammarparser_reader_sequence_c12 .skip K env H := aw_cond _ grammarparser_reader_sequence_c12 .skip
def grammarparser_reader_sequence_c14 : AC := .seq grammarparser_reader_sequence_c10 grammarparser_reader_sequence_c13
@[simp] theorem grammarparser_reader_sequence_c14_eq {K : AK} {env : Env} {H : AHeap} : aw PP grammarparser_reader_sequence_c14 K env H = aw PP grammarparser_reader_sequence_c10 (seqK PP grammarparser_reader_sequence_c13 K) env H := aw_seq grammarparser_reader_sequence_c10 grammarparser_reader_sequence_c13
def grammarparser_reader_sequence_c15 : AC := .reg [⟨some 23, none, .mov (.t 3)⟩, ⟨some 24, none, .build [.int (.i64) 0, .str [], .nils] [(0, .c (.int (.i64) 2)), (2, .t 23)]⟩, ⟨none, none, .st 3 (.t 2) (.t 24)⟩] [3, 19, 23, 24]
@[simp] theorem grammarparser_reader_sequence_c15_eq {K : AK} {env : Env} {H : AHeap} : aw PP grammarparser_reader_sequence_c15 K env H = awOps PP [⟨some 23, none, .mov (.t 3)⟩, ⟨some 24, none, .build [.int (.i64) 0, .str [], .nils] [(0, .c (.int (.i64) 2)), (2, .t 23)]⟩, ⟨none, none, .st 3 (.t 2) (.t 24)⟩] (regK K [3, 19, 23, 24]) (panK K) env H := aw_reg _ _
def grammarparser_reader_sequence_c16 : AC := .seq grammarparser_reader_sequence_c15 .ret
@[simp] theorem grammarparser_reader_sequence_c16_eq {K : AK} {env : Env} {H : AHeap} : aw PP grammarparser_reader_sequence_c16 K env H = aw PP grammarparser_reader_sequence_c15 (seqK PP .ret K) env H := aw_seq grammarparser_reader_sequence_c15 .ret
def grammarparser_reader_sequence_c17 : AC := .seq grammarparser_reader_sequence_c14 grammarparser_reader_sequence_c16
@[simp] theorem grammarparser_reader_sequence_c17_eq {K : AK} {env : Env} {H : AHeap} : aw PP grammarparser_reader_sequence_c17 K env H = aw PP grammarparser_reader_sequence_c14 (seqK PP grammarparser_reader_sequence_c16 K) env H := aw_seq grammarparser_reader_sequence_c14 grammarparser_reader_sequence_c16
def grammarparser_reader_sequence_c18 : AC := .seq grammarparser_reader_sequence_c9 grammarparser_reader_sequence_c17
@[simp] theorem grammarparser_reader_sequence_c18_eq {K : AK} {env : Env} {H : AHeap} : aw PP grammarparser_reader_sequence_c18 K env H = aw PP grammarparser_reader_sequence_c9 (seqK PP grammarparser_reader_sequence_c17 K) env H := aw_seq grammarparser_reader_sequence_c9 grammarparser_reader_sequence_c17
def grammarparser_reader_sequence_c19 : AC := .seq grammarparser_reader_sequence_c1 grammarparser_reader_sequence_c18
@[simp] theorem grammarparser_reader_sequence_c19_eq {K : AK} {env : Env} {H : AHeap} : aw PP grammarparser_reader_sequence_c19 K env H = aw PP grammarparser_reader_sequence_c1 (seqK PP grammarparser_reader_sequence_c18 K) env H := aw_seq grammarparser_reader_sequence_c1 grammarparser_reader_sequence_c18
def grammarparser_reader_sequence_c20 : AC := .seq grammarparser_reader_sequence_c0 grammarparser_reader_sequence_c19
@[simp] theorem grammarparser_reader_sequence_c20_eq {K : AK} {env : Env} {H : AHeap} : aw PP grammarparser_reader_sequence_c20 K env H = aw PP grammarparser_reader_sequence_c0 (seqK PP grammarparser_reader_sequence_c19 K) env H := aw_seq grammarparser_reader_sequence_c0 grammarparser_reader_sequence_c19
def grammarparser_reader_sequence_ac : AC := grammarparser_reader_sequence_c20
@[simp] theorem grammarparser_reader_sequence_ac_eq {K : AK} {env : Env} {H : AHeap} : aw PP grammarparser_reader_sequence_ac K env H = aw PP grammarparser_reader_sequence_c20 K env H := Eq.trans rfl rfl
def grammarparser_reader_sequence_rs : List ARV := [.cell 2 true 3]
abbrev grammarparser_reader_sequence_id : Nat := 70
theorem grammarparser_reader_sequence_comp : compF PP grammarparser_reader_sequence_kl grammarparser_reader_sequence_ow 1 Try.f70 = some (grammarparser_reader_sequence_ac, grammarparser_reader_sequence_rs) := by kernel_rfl
theorem grammarparser_reader_sequence_enter {args : List AV} {H : AHeap} {post : ARes → AHeap → Prop} (ha : args.length = 1) (h : aw PP grammarparser_reader_sequence_ac (retK grammarparser_reader_sequence_rs post) (argEnv 0 args) H) : ACalls PP grammarparser_reader_sequence_id args H post := .enterF Try.func70 PP_mix grammarparser_reader_sequence_comp ha h

/-! slices.ContainsFunc[[]emendate.api.GAlternative,emendate.api.GAlternative] -/
def slices_ContainsFunc_GAlternative_kl : Nat → List Nat
  | 0 => [4]
  | 1 => [0, 1, 5, 6, 7, 8]
  | _ => []
def slices_ContainsFunc_GAlternative_ow : Nat → Nat → Bool := fun _ _ => false
def slices_ContainsFunc_GAlternative_c0 : AC := .reg [⟨some 4, none, .mov (.c (.bool false))⟩] [4]
@[simp] theorem slices_ContainsFunc_GAlternative_c0_eq {K : AK} {env : Env} {H : AHeap} : aw PP slices_ContainsFunc_GAlternative_c0 K env H = awOps PP [⟨some 4, none, .mov (.c (.bool false))⟩] (regK K [4]) (panK K) env H := aw_reg _ _
def slices_ContainsFunc_GAlternative_c1 : AC := .reg [⟨some 5, none, .mov (.t 0)⟩, ⟨some 6, none, .mov (.t 1)⟩, ⟨some 7, none, .call (.c (.fn (.func 80) [] [])) [.t 5, .t 6]⟩, ⟨some 8, none, .bin (.geq) (.t 7) (.c (.int (.i64) 0))⟩, ⟨some 4, none, .mov (.t 8)⟩] [0, 1, 5, 6, 7, 8]
@[simp] theorem slices_ContainsFunc_GAlternative_c1_eq {K : AK} {env : Env} {H : AHeap} : aw PP slices_ContainsFunc_GAlternative_c1 K env H = awOps PP [⟨some 5, none, .mov (.t 0)⟩, ⟨some 6, none, .mov (.t 1)⟩, ⟨some 7, none, .call (.c (.fn (.func 80) [] [])) [.t 5, .t 6]⟩, ⟨some 8, none, .bin (.geq) (.t 7) (.c (.int (.i64) 0))⟩, ⟨some 4, none, .mov (.t 8)⟩] (regK K [0, 1, 5, 6, 7, 8]) (panK K) env H := aw_reg _ _
def slices_ContainsFunc_GAlternative_c2 : AC := .seq slices_ContainsFunc_GAlternative_c1 .ret
@[simp] theorem slices_ContainsFunc_GAlternative_c2_eq {K : AK} {env : Env} {H : AHeap} : aw PP slices_ContainsFunc_GAlternative_c2 K env H = aw PP slices_ContainsFunc_GAlternative_c1 (seqK PP .ret K) env H := aw_seq slices_ContainsFunc_GAlternative_c1 .ret
def slices_ContainsFunc_GAlternative_c3 : AC := .seq slices_ContainsFunc_GAlternative_c0 slices_ContainsFunc_GAlternative_c2
@[simp] theorem slices_ContainsFunc_GAlternative_c3_eq {K : AK} {env : Env} {H : AHeap} : aw PP slices_ContainsFunc_GAlternative_c3 K env H = aw PP slices_ContainsFunc_GAlternative_c0 (seqK PP slices_ContainsFunc_GAlternative_c2 K) env H := aw_seq slices_ContainsFunc_GAlternative_c0 slices_ContainsFunc_GAlternative_c2
def slices_ContainsFunc_GAlternative_ac : AC := slices_ContainsFunc_GAlternative_c3
@[simp] theorem slices_ContainsFunc_GAlternative_ac_eq {K : AK} {env : Env} {H : AHeap} : aw PP slices_ContainsFunc_GAlternative_ac K env H = aw PP slices_ContainsFunc_GAlternative_c3 K env H := Eq.trans rfl rfl
def slices_ContainsFunc_GAlternative_rs : List ARV := [.tmp 4]
abbrev slices_ContainsFunc_GAlternative_id : Nat := 71
theorem slices_ContainsFunc_GAlternative_comp : compF PP slices_ContainsFunc_GAlternative_kl slices_ContainsFunc_GAlternative_ow 2 Try.f71 = some (slices_ContainsFunc_GAlternative_ac, slices_ContainsFunc_GAlternative_rs) := by kernel_rfl
theorem slices_ContainsFunc_GAlternative_enter {args : List AV} {H : AHeap} {post : ARes → AHeap → Prop} (ha : args.length = 2) (h : aw PP slices_ContainsFunc_GAlternative_ac (retK slices_ContainsFunc_GAlternative_rs post) (argEnv 0 args) H) : ACalls PP slices_ContainsFunc_GAlternative_id args H post := .enterF Try.func71 PP_mix slices_ContainsFunc_GAlternative_comp ha h

/-! emendate.grammarfile.rule$1 -/
def grammarfile_rule_1_kl : Nat → List Nat
  | 0 => [0, 2]
  | 1 => [1, 3, 4, 5, 6, 7, 8, 9, 10, 11, 12, 13, 14, 15, 16]
  | _ => []
def grammarfile_rule_1_ow : Nat → Nat → Bool := fun _ _ => false
def grammarfile_rule_1_c0 : AC := .reg [⟨some 1, none, .box (.t 0) 4 49⟩, ⟨some 2, none, .mov (.c (.bool false))⟩] [0, 2]
@[simp] theorem grammarfile_rule_1_c0_eq {K : AK} {env : Env} {H : AHeap} : aw PP grammarfile_rule_1_c0 K env H = awOps PP [⟨some 1, none, .box (.t 0) 4 49⟩, ⟨some 2, none, .mov (.c (.bool false))⟩] (regK K [0, 2]) (panK K) env H := aw_reg _ _
def grammarfile_rule_1_c1 : AC := .reg [⟨some 3, none, .fa 1 3 (.t 1)⟩, ⟨some 4, none, .ld false 1 (.t 3)⟩, ⟨some 5, none, .bin (.lss) (.t 4) (.c (.int (.i64) 0))⟩, ⟨some 6, none, .mov (.t 5)⟩, ⟨some 7, some (6, false), .fa 1 3 (.t 1)⟩, ⟨some 8, some (6, false), .ld false 1 (.t 7)⟩, ⟨some 9, some (6, false), .bin (.gtr) (.t 8) (.c (.int (.i64) 1000))⟩, ⟨some 10, none, .pick (.t 6) (.c (.bool true)) (.t 9)⟩, ⟨some 11, none, .mov (.t 10)⟩, ⟨some 12, some (11, false), .fa 0 0 (.t 1)⟩, ⟨some 13, some (11, false), .ld true 3 (.t 12)⟩, ⟨some 14, some (11, false), .call (.c (.fn (.func 73) [] [])) [.t 13, .c (.int (.i64) 30)]⟩, ⟨some 15, some (11, false), .not (.t 14)⟩, ⟨some 16, none, .pick (.t 11) (.c (.bool true)) (.t 15)⟩, ⟨some 2, none, .mov (.t 16)⟩] [1, 3, 4, 5, 6, 7, 8, 9, 10, 11, 12, 13, 14, 15, 16]
@[simp] theorem grammarfile_rule_1_c1_eq {K : AK} {env : Env} {H : AHeap} : aw PP grammarfile_rule_1_c1 K env H = awOps PP [⟨some 3, none, .fa 1 3 (.t 1)⟩, ⟨some 4, none, .ld false 1 (.t 3)⟩, ⟨some 5, none, .bin (.lss) (.t 4) (.c (.int (.i64) 0))⟩, ⟨some 6, none, .mov (.t 5)⟩, ⟨some 7, some (6, false), .fa 1 3 (.t 1)⟩, ⟨some 8, some (6, false), .ld false 1 (.t 7)⟩, ⟨some 9, some (6, false), .bin (.gtr) (.t 8) (.c (.int (.i64) 1000))⟩, ⟨some 10, none, .pick (.t 6) (.c (.bool true)) (.t 9)⟩, ⟨some 11, none, .mov (.t 10)⟩, ⟨some 12, some (11, false), .fa 0 0 (.t 1)⟩, ⟨some 13, some (11, false), .ld true 3 (.t 12)⟩, ⟨some 14, some (11, false), .call (.c (.fn (.func 73) [] [])) [.t 13, .c (.int (.i64) 30)]⟩, ⟨some 15, some (11, false), .not (.t 14)⟩, ⟨some 16, none, .pick (.t 11) (.c (.bool true)) (.t 15)⟩, ⟨some 2, none, .mov (.t 16)⟩] (regK K [1, 3, 4, 5, 6, 7, 8, 9, 10, 11, 12, 13, 14, 15, 16]) (panK K) env H := aw_reg _ _
def grammarfile_rule_1_c2 : AC := .seq grammarfile_rule_1_c1 .ret
@[simp] theorem grammarfile_rule_1_c2_eq {K : AK} {env : Env} {H : AHeap} : aw PP grammarfile_rule_1_c2 K env H = aw PP grammarfile_rule_1_c1 (seqK PP .ret K) env H := aw_seq grammarfile_rule_1_c1 .ret
def grammarfile_rule_1_c3 : AC := .seq grammarfile_rule_1_c0 grammarfile_rule_1_c2
@[simp] theorem grammarfile_rule_1_c3_eq {K : AK} {env : Env} {H : AHeap} : aw PP grammarfile_rule_1_c3 K env H = aw PP grammarfile_rule_1_c0 (seqK PP grammarfile_rule_1_c2 K) env H := aw_seq grammarfile_rule_1_c0 grammarfile_rule_1_c2
def grammarfile_rule_1_ac : AC := grammarfile_rule_1_c3
@[simp] theorem grammarfile_rule_1_ac_eq {K : AK} {env : Env} {H : AHeap} : aw PP grammarfile_rule_1_ac K env H = aw PP grammarfile_rule_1_c3 K env H := Eq.trans rfl rfl
def grammarfile_rule_1_rs : List ARV := [.tmp 2]
abbrev grammarfile_rule_1_id : Nat := 72
theorem grammarfile_rule_1_comp : compF PP grammarfile_rule_1_kl grammarfile_rule_1_ow 1 Try.f72 = some (grammarfile_rule_1_ac, grammarfile_rule_1_rs) := by kernel_rfl
theorem grammarfile_rule_1_enter {args : List AV} {H : AHeap} {post : ARes → AHeap → Prop} (ha : args.length = 1) (h : aw PP grammarfile_rule_1_ac (retK grammarfile_rule_1_rs post) (argEnv 0 args) H) : ACalls PP grammarfile_rule_1_id args H post := .enterF Try.func72 PP_mix grammarfile_rule_1_comp ha h

/-! emendate.grammarfile.expr -/
def grammarfile_expr_kl : Nat → List Nat
  | 0 => [0, 1, 4]
  | 1 => [7, 8, 9, 10, 11, 12, 13, 14, 15, 16, 17]
  | 2 => [2, 3, 18]
  | 3 => [18, 19, 20, 21]
  | 4 => [22]
  | 5 => [25]
  | 6 => [5, 23, 24, 26, 27, 28, 29, 30, 31, 32]
  | 7 => [24, 34]
  | 8 => [5, 23, 33, 35, 36]
  | 9 => [33, 38]
  | 10 => [5, 23, 37, 39, 40]
  | 11 => [37, 42]
  | 12 => [43]
  | 13 => [23, 44]
  | 14 => [5, 23, 41, 45, 46]
  | 15 => [2, 3, 5, 6, 23, 41, 47, 48, 49, 50, 51, 52, 53, 54]
  | _ => []
def grammarfile_expr_ow : Nat → Nat → Bool := fun _ _ => false
def grammarfile_expr_c0 : AC := .reg [⟨some 2, none, .box (.t 0) 3 47⟩, ⟨some 3, none, .box (.t 1) 1 3⟩, ⟨some 4, none, .mov (.c (.bool false))⟩] [0, 1, 4]
@[simp] theorem grammarfile_expr_c0_eq {K : AK} {env : Env} {H : AHeap} : aw PP grammarfile_expr_c0 K env H = awOps PP [⟨some 2, none, .box (.t 0) 3 47⟩, ⟨some 3, none, .box (.t 1) 1 3⟩, ⟨some 4, none, .mov (.c (.bool false))⟩] (regK K [0, 1, 4]) (panK K) env H := aw_reg _ _
def grammarfile_expr_c1 : AC := .reg [⟨some 7, none, .ld false 1 (.t 3)⟩, ⟨some 8, none, .bin (.lss) (.t 7) (.c (.int (.i64) 1))⟩, ⟨some 9, none, .mov (.t 8)⟩, ⟨some 10, some (9, false), .fa 0 0 (.t 2)⟩, ⟨some 11, some (9, false), .ld false 1 (.t 10)⟩, ⟨some 12, some (9, false), .bin (.neq) (.t 11) (.c (.int (.i64) 1))⟩, ⟨some 13, some (9, false), .mov (.t 12)⟩, ⟨some 14, some (13, true), .fa 1 1 (.t 2)⟩, ⟨some 15, some (13, true), .ld false 1 (.t 14)⟩, ⟨some 16, some (13, true), .bin (.neq) (.t 15) (.c (.str []))⟩, ⟨some 17, some (9, false), .pick (.t 13) (.t 16) (.c (.bool false))⟩, ⟨some 18, none, .pick (.t 9) (.c (.bool true)) (.t 17)⟩] [7, 8, 9, 10, 11, 12, 13, 14, 15, 16, 17]
@[simp] theorem grammarfile_expr_c1_eq {K : AK} {env : Env} {H : AHeap} : aw PP grammarfile_expr_c1 K env H = awOps PP [⟨some 7, none, .ld false 1 (.t 3)⟩, ⟨some 8, none, .bin (.lss) (.t 7) (.c (.int (.i64) 1))⟩, ⟨some 9, none, .mov (.t 8)⟩, ⟨some 10, some (9, false), .fa 0 0 (.t 2)⟩, ⟨some 11, some (9, false), .ld false 1 (.t 10)⟩, ⟨some 12, some (9, false), .bin (.neq) (.t 11) (.c (.int (.i64) 1))⟩, ⟨some 13, some (9, false), .mov (.t 12)⟩, ⟨some 14, some (13, true), .fa 1 1 (.t 2)⟩, ⟨some 15, some (13, true), .ld false 1 (.t 14)⟩, ⟨some 16, some (13, true), .bin (.neq) (.t 15) (.c (.str []))⟩, ⟨some 17, some (9, false), .pick (.t 13) (.t 16) (.c (.bool false))⟩, ⟨some 18, none, .pick (.t 9) (.c (.bool true)) (.t 17)⟩] (regK K [7, 8, 9, 10, 11, 12, 13, 14, 15, 16, 17]) (panK K) env H := aw_reg _ _
def grammarfile_expr_c2 : AC := .reg [⟨some 4, none, .mov (.c (.bool false))⟩] [2, 3, 18]
@[simp] theorem grammarfile_expr_c2_eq {K : AK} {env : Env} {H : AHeap} : aw PP grammarfile_expr_c2 K env H = awOps PP [⟨some 4, none, .mov (.c (.bool false))⟩] (regK K [2, 3, 18]) (panK K) env H := aw_reg _ _
def grammarfile_expr_c3 : AC := .seq grammarfile_expr_c2 .ret
@[simp] theorem grammarfile_expr_c3_eq {K : AK} {env : Env} {H : AHeap} : aw PP grammarfile_expr_c3 K env H = aw PP grammarfile_expr_c2 (seqK PP .ret K) env H := aw_seq grammarfile_expr_c2 .ret
def grammarfile_expr_c4 : AC := .cond (.t 18) grammarfile_expr_c3 .skip
@[simp] theorem grammarfile_expr_c4_eq {K : AK} {env : Env} {H : AHeap} : aw PP grammarfile_expr_c4 K env H = condQ PP (Opd.ev env (.t 18)) grammarfile_expr_c3 .skip K env H := aw_cond _ grammarfile_expr_c3 .skip
def grammarfile_expr_c5 : AC := .seq grammarfile_expr_c1 grammarfile_expr_c4
@[simp] theorem grammarfile_expr_c5_eq {K : AK} {env : Env} {H : AHeap} : aw PP grammarfile_expr_c5 K env H = aw PP grammarfile_expr_c1 (seqK PP grammarfile_expr_c4 K) env H := aw_seq grammarfile_expr_c1 grammarfile_expr_c4
def grammarfile_expr_c6 : AC := .reg [⟨some 19, none, .fa 2 2 (.t 2)⟩, ⟨some 20, none, .ld false 1 (.t 19)⟩, ⟨some 21, none, .lenl (.t 20)⟩, ⟨some 5, none, .mov (.t 21)⟩, ⟨some 6, none, .mov (.c (.bool false))⟩] [18, 19, 20, 21]
@[simp] theorem grammarfile_expr_c6_eq {K : AK} {env : Env} {H : AHeap} : aw PP grammarfile_expr_c6 K env H = awOps PP [⟨some 19, none, .fa 2 2 (.t 2)⟩, ⟨some 20, none, .ld false 1 (.t 19)⟩, ⟨some 21, none, .lenl (.t 20)⟩, ⟨some 5, none, .mov (.t 21)⟩, ⟨some 6, none, .mov (.c (.bool false))⟩] (regK K [18, 19, 20, 21]) (panK K) env H := aw_reg _ _
def grammarfile_expr_c7 : AC := .reg [⟨some 22, none, .fa 0 0 (.t 2)⟩, ⟨some 23, none, .ld false 1 (.t 22)⟩] [22]
@[simp] theorem grammarfile_expr_c7_eq {K : AK} {env : Env} {H : AHeap} : aw PP grammarfile_expr_c7 K env H = awOps PP [⟨some 22, none, .fa 0 0 (.t 2)⟩, ⟨some 23, none, .ld false 1 (.t 22)⟩] (regK K [22]) (panK K) env H := aw_reg _ _
def grammarfile_expr_c8 : AC := .reg [⟨some 25, none, .bin (.eql) (.t 23) (.c (.int (.i64) 1))⟩, ⟨some 24, none, .mov (.t 25)⟩] [25]
@[simp] theorem grammarfile_expr_c8_eq {K : AK} {env : Env} {H : AHeap} : aw PP grammarfile_expr_c8 K env H = awOps PP [⟨some 25, none, .bin (.eql) (.t 23) (.c (.int (.i64) 1))⟩, ⟨some 24, none, .mov (.t 25)⟩] (regK K [25]) (panK K) env H := aw_reg _ _
def grammarfile_expr_c9 : AC := .reg [⟨some 26, none, .fa 1 1 (.t 2)⟩, ⟨some 27, none, .ld false 1 (.t 26)⟩, ⟨some 28, none, .call (.c (.fn (.func 74) [] [])) [.t 27]⟩, ⟨some 29, none, .mov (.t 28)⟩, ⟨some 30, some (29, true), .mov (.t 5)⟩, ⟨some 31, some (29, true), .bin (.eql) (.t 30) (.c (.int (.i64) 0))⟩, ⟨some 32, none, .pick (.t 29) (.t 31) (.c (.bool false))⟩, ⟨some 6, none, .mov (.t 32)⟩] [5, 23, 24, 26, 27, 28, 29, 30, 31, 32]
@[simp] theorem grammarfile_expr_c9_eq {K : AK} {env : Env} {H : AHeap} : aw PP grammarfile_expr_c9 K env H = awOps PP [⟨some 26, none, .fa 1 1 (.t 2)⟩, ⟨some 27, none, .ld false 1 (.t 26)⟩, ⟨some 28, none, .call (.c (.fn (.func 74) [] [])) [.t 27]⟩, ⟨some 29, none, .mov (.t 28)⟩, ⟨some 30, some (29, true), .mov (.t 5)⟩, ⟨some 31, some (29, true), .bin (.eql) (.t 30) (.c (.int (.i64) 0))⟩, ⟨some 32, none, .pick (.t 29) (.t 31) (.c (.bool false))⟩, ⟨some 6, none, .mov (.t 32)⟩] (regK K [5, 23, 24, 26, 27, 28, 29, 30, 31, 32]) (panK K) env H := aw_reg _ _
def grammarfile_expr_c10 : AC := .reg [⟨some 34, none, .bin (.eql) (.t 23) (.c (.int (.i64) 2))⟩, ⟨some 33, none, .mov (.t 34)⟩] [24, 34]
@[simp] theorem grammarfile_expr_c10_eq {K : AK} {env : Env} {H : AHeap} : aw PP grammarfile_expr_c10 K env H = awOps PP [⟨some 34, none, .bin (.eql) (.t 23) (.c (.int (.i64) 2))⟩, ⟨some 33, none, .mov (.t 34)⟩] (regK K [24, 34]) (panK K) env H := aw_reg _ _
def grammarfile_expr_c11 : AC := .reg [⟨some 35, none, .mov (.t 5)⟩, ⟨some 36, none, .bin (.neq) (.t 35) (.c (.int (.i64) 1))⟩, ⟨some 6, none, .mov (.t 36)⟩] [5, 23, 33, 35, 36]
@[simp] theorem grammarfile_expr_c11_eq {K : AK} {env : Env} {H : AHeap} : aw PP grammarfile_expr_c11 K env H = awOps PP [⟨some 35, none, .mov (.t 5)⟩, ⟨some 36, none, .bin (.neq) (.t 35) (.c (.int (.i64) 1))⟩, ⟨some 6, none, .mov (.t 36)⟩] (regK K [5, 23, 33, 35, 36]) (panK K) env H := aw_reg _ _
def grammarfile_expr_c12 : AC := .reg [⟨some 38, none, .bin (.eql) (.t 23) (.c (.int (.i64) 3))⟩, ⟨some 37, none, .mov (.t 38)⟩] [33, 38]
@[simp] theorem grammarfile_expr_c12_eq {K : AK} {env : Env} {H : AHeap} : aw PP grammarfile_expr_c12 K env H = awOps PP [⟨some 38, none, .bin (.eql) (.t 23) (.c (.int (.i64) 3))⟩, ⟨some 37, none, .mov (.t 38)⟩] (regK K [33, 38]) (panK K) env H := aw_reg _ _
def grammarfile_expr_c13 : AC := .reg [⟨some 39, none, .mov (.t 5)⟩, ⟨some 40, none, .bin (.geq) (.t 39) (.c (.int (.i64) 2))⟩, ⟨some 6, none, .mov (.t 40)⟩] [5, 23, 37, 39, 40]
@[simp] theorem grammarfile_expr_c13_eq {K : AK} {env : Env} {H : AHeap} : aw PP grammarfile_expr_c13 K env H = awOps PP [⟨some 39, none, .mov (.t 5)⟩, ⟨some 40, none, .bin (.geq) (.t 39) (.c (.int (.i64) 2))⟩, ⟨some 6, none, .mov (.t 40)⟩] (regK K [5, 23, 37, 39, 40]) (panK K) env H := aw_reg _ _
def grammarfile_expr_c14 : AC := .reg [⟨some 42, none, .bin (.eql) (.t 23) (.c (.int (.i64) 4))⟩, ⟨some 41, none, .mov (.t 42)⟩] [37, 42]
@[simp] theorem grammarfile_expr_c14_eq {K : AK} {env : Env} {H : AHeap} : aw PP grammarfile_expr_c14 K env H = awOps PP [⟨some 42, none, .bin (.eql) (.t 23) (.c (.int (.i64) 4))⟩, ⟨some 41, none, .mov (.t 42)⟩] (regK K [37, 42]) (panK K) env H := aw_reg _ _
def grammarfile_expr_c15 : AC := .reg [⟨some 43, none, .bin (.eql) (.t 23) (.c (.int (.i64) 5))⟩, ⟨some 41, none, .mov (.t 43)⟩] [43]
@[simp] theorem grammarfile_expr_c15_eq {K : AK} {env : Env} {H : AHeap} : aw PP grammarfile_expr_c15 K env H = awOps PP [⟨some 43, none, .bin (.eql) (.t 23) (.c (.int (.i64) 5))⟩, ⟨some 41, none, .mov (.t 43)⟩] (regK K [43]) (panK K) env H := aw_reg _ _
def grammarfile_expr_c16 : AC := .reg [⟨some 44, none, .bin (.eql) (.t 23) (.c (.int (.i64) 6))⟩, ⟨some 41, none, .mov (.t 44)⟩] [23, 44]
@[simp] theorem grammarfile_expr_c16_eq {K : AK} {env : Env} {H : AHeap} : aw PP grammarfile_expr_c16 K env H = awOps PP [⟨some 44, none, .bin (.eql) (.t 23) (.c (.int (.i64) 6))⟩, ⟨some 41, none, .mov (.t 44)⟩] (regK K [23, 44]) (panK K) env H := aw_reg _ _
def grammarfile_expr_c17 : AC := .cond (.t 41) .skip grammarfile_expr_c16
@[simp] theorem grammarfile_expr_c17_eq {K : AK} {env : Env} {H : AHeap} : aw PP grammarfile_expr_c17 K env H = condQ PP (Opd.ev env (.t 41)) .skip grammarfile_expr_c16 K env H := aw_cond _ .skip grammarfile_expr_c16
def grammarfile_expr_c18 : AC := .seq grammarfile_expr_c15 grammarfile_expr_c17
@[simp] theorem grammarfile_expr_c18_eq {K : AK} {env : Env} {H : AHeap} : aw PP grammarfile_expr_c18 K env H = aw PP grammarfile_expr_c15 (seqK PP grammarfile_expr_c17 K) env H := aw_seq grammarfile_expr_c15 grammarfile_expr_c17
def grammarfile_expr_c19 : AC := .cond (.t 41) .skip grammarfile_expr_c18
@[simp] theorem grammarfile_expr_c19_eq {K : AK} {env : Env} {H : AHeap} : aw PP grammarfile_expr_c19 K env H = condQ PP (Opd.ev env (.t 41)) .skip grammarfile_expr_c18 K env H := aw_cond _ .skip grammarfile_expr_c18
def grammarfile_expr_c20 : AC := .seq grammarfile_expr_c14 grammarfile_expr_c19
@[simp] theorem grammarfile_expr_c20_eq {K : AK} {env : Env} {H : AHeap} : aw PP grammarfile_expr_c20 K env H = aw PP grammarfile_expr_c14 (seqK PP grammarfile_expr_c19 K) env H := aw_seq grammarfile_expr_c14 grammarfile_expr_c19
def grammarfile_expr_c21 : AC := .reg [⟨some 45, none, .mov (.t 5)⟩, ⟨some 46, none, .bin (.eql) (.t 45) (.c (.int (.i64) 1))⟩, ⟨some 6, none, .mov (.t 46)⟩] [5, 23, 41, 45, 46]
@[simp] theorem grammarfile_expr_c21_eq {K : AK} {env : Env} {H : AHeap} : aw PP grammarfile_expr_c21 K env H = awOps PP [⟨some 45, none, .mov (.t 5)⟩, ⟨some 46, none, .bin (.eql) (.t 45) (.c (.int (.i64) 1))⟩, ⟨some 6, none, .mov (.t 46)⟩] (regK K [5, 23, 41, 45, 46]) (panK K) env H := aw_reg _ _
def grammarfile_expr_c22 : AC := .cond (.t 41) grammarfile_expr_c21 .skip
@[simp] theorem grammarfile_expr_c22_eq {K : AK} {env : Env} {H : AHeap} : aw PP grammarfile_expr_c22 K env H = condQ PP (Opd.ev env (.t 41)) grammarfile_expr_c21 .skip K env H := aw_cond _ grammarfile_expr_c21 .skip
def grammarfile_expr_c23 : AC := .seq grammarfile_expr_c20 grammarfile_expr_c22
@[simp] theorem grammarfile_expr_c23_eq {K : AK} {env : Env} {H : AHeap} : aw PP grammarfile_expr_c23 K env H = aw PP grammarfile_expr_c20 (seqK PP grammarfile_expr_c22 K) env H := aw_seq grammarfile_expr_c20 grammarfile_expr_c22
def grammarfile_expr_c24 : AC := .cond (.t 37) grammarfile_expr_c13 grammarfile_expr_c23
@[simp] theorem grammarfile_expr_c24_eq {K : AK} {env : Env} {H : AHeap} : aw PP grammarfile_expr_c24 K env H = condQ PP (Opd.ev env (.t 37)) grammarfile_expr_c13 grammarfile_expr_c23 K env H := aw_cond _ grammarfile_expr_c13 grammarfile_expr_c23
def grammarfile_expr_c25 : AC := .seq grammarfile_expr_c12 grammarfile_expr_c24
@[simp] theorem grammarfile_expr_c25_eq {K : AK} {env : Env} {H : AHeap} : aw PP grammarfile_expr_c25 K env H = aw PP grammarfile_expr_c12 (seqK PP grammarfile_expr_c24 K) env H := aw_seq grammarfile_expr_c12 grammarfile_expr_c24
def grammarfile_expr_c26 : AC := .cond (.t 33) grammarfile_expr_c11 grammarfile_expr_c25
@[simp] theorem grammarfile_expr_c26_eq {K : AK} {env : Env} {H : AHeap} : aw PP grammarfile_expr_c26 K env H = condQ PP (Opd.ev env (.t 33)) grammarfile_expr_c11 grammarfile_expr_c25 K env H := aw_cond _ grammarfile_expr_c11 grammarfile_expr_c25
def grammarfile_expr_c27 : AC := .seq grammarfile_expr_c10 grammarfile_expr_c26
@[simp] theorem grammarfile_expr_c27_eq {K : AK} {env : Env} {H : AHeap} : aw PP grammarfile_expr_c27 K env H = aw PP grammarfile_expr_c10 (seqK PP grammarfile_expr_c26 K) env H := aw_seq grammarfile_expr_c10 grammarfile_expr_c26
def grammarfile_expr_c28 : AC := .cond (.t 24) grammarfile_expr_c9 grammarfile_expr_c27
@[simp] theorem grammarfile_expr_c28_eq {K : AK} {env : Env} {H : AHeap} : aw PP grammarfile_expr_c28 K env H = condQ PP (Opd.ev env (.t 24)) grammarfile_expr_c9 grammarfile_expr_c27 K env H := aw_cond _ grammarfile_expr_c9 grammarfile_expr_c27
def grammarfile_expr_c29 : AC := .seq grammarfile_expr_c8 grammarfile_expr_c28
@[simp] theorem grammarfile_expr_c29_eq {K : AK} {env : Env} {H : AHeap} : aw PP grammarfile_expr_c29 K env H = aw PP grammarfile_expr_c8 (seqK PP grammarfile_expr_c28 K) env H := aw_seq grammarfile_expr_c8 grammarfile_expr_c28
def grammarfile_expr_c30 : AC := .block 0 grammarfile_expr_c29
@[simp] theorem grammarfile_expr_c30_eq {K : AK} {env : Env} {H : AHeap} : aw PP grammarfile_expr_c30 K env H = aw PP grammarfile_expr_c29 (blockK 0 K) env H := aw_block _ grammarfile_expr_c29
def grammarfile_expr_c31 : AC := .seq grammarfile_expr_c7 grammarfile_expr_c30
@[simp] theorem grammarfile_expr_c31_eq {K : AK} {env : Env} {H : AHeap} : aw PP grammarfile_expr_c31 K env H = aw PP grammarfile_expr_c7 (seqK PP grammarfile_expr_c30 K) env H := aw_seq grammarfile_expr_c7 grammarfile_expr_c30
def grammarfile_expr_c32 : AC := .reg [⟨some 47, none, .mov (.t 6)⟩, ⟨some 48, none, .mov (.t 47)⟩, ⟨some 49, some (48, true), .fa 2 2 (.t 2)⟩, ⟨some 50, some (48, true), .ld false 1 (.t 49)⟩, ⟨some 51, some (48, true), .mkfn (.func 82) [] [.t 3]⟩, ⟨some 52, some (48, true), .call (.c (.fn (.func 81) [] [])) [.t 50, .t 51]⟩, ⟨some 53, some (48, true), .not (.t 52)⟩, ⟨some 54, none, .pick (.t 48) (.t 53) (.c (.bool false))⟩, ⟨some 4, none, .mov (.t 54)⟩] [2, 3, 5, 6, 23, 41, 47, 48, 49, 50, 51, 52, 53, 54]
@[simp] theorem grammarfile_expr_c32_eq {K : AK} {env : Env} {H : AHeap} : aw PP grammarfile_expr_c32 K env H = awOps PP [⟨some 47, none, .mov (.t 6)⟩, ⟨some 48, none, .mov (.t 47)⟩, ⟨some 49, some (48, true), .fa 2 2 (.t 2)⟩, ⟨some 50, some (48, true), .ld false 1 (.t 49)⟩, ⟨some 51, some (48, true), .mkfn (.func 82) [] [.t 3]⟩, ⟨some 52, some (48, true), .call (.c (.fn (.func 81) [] [])) [.t 50, .t 51]⟩, ⟨some 53, some (48, true), .not (.t 52)⟩, ⟨some 54, none, .pick (.t 48) (.t 53) (.c (.bool false))⟩, ⟨some 4, none, .mov (.t 54)⟩] (regK K [2, 3, 5, 6, 23, 41, 47, 48, 49, 50, 51, 52, 53, 54]) (panK K) env H := aw_reg _ _
def grammarfile_expr_c33 : AC := .seq grammarfile_expr_c32 .ret
@[simp] theorem grammarfile_expr_c33_eq {K : AK} {env : Env} {H : AHeap} : aw PP grammarfile_expr_c33 K env H = aw PP grammarfile_expr_c32 (seqK PP .ret K) env H := aw_seq grammarfile_expr_c32 .ret
def grammarfile_expr_c34 : AC := .seq grammarfile_expr_c31 grammarfile_expr_c33
@[simp] theorem grammarfile_expr_c34_eq {K : AK} {env : Env} {H : AHeap} : aw PP grammarfile_expr_c34 K env H = aw PP grammarfile_expr_c31 (seqK PP grammarfile_expr_c33 K) env H := aw_seq grammarfile_expr_c31 grammarfile_expr_c33
def grammarfile_expr_c35 : AC := .seq grammarfile_expr_c6 grammarfile_expr_c34
@[simp] theorem grammarfile_expr_c35_eq {K : AK} {env : Env} {H : AHeap} : aw PP grammarfile_expr_c35 K env H = aw PP grammarfile_expr_c6 (seqK PP grammarfile_expr_c34 K) env H := aw_seq grammarfile_expr_c6 grammarfile_expr_c34
def grammarfile_expr_c36 : AC := .seq grammarfile_expr_c5 grammarfile_expr_c35
@[simp] theorem grammarfile_expr_c36_eq {K : AK} {env : Env} {H : AHeap} : aw PP grammarfile_expr_c36 K env H = aw PP grammarfile_expr_c5 (seqK PP grammarfile_expr_c35 K) env H := aw_seq grammarfile_expr_c5 grammarfile_expr_c35
def grammarfile_expr_c37 : AC := .seq grammarfile_expr_c0 grammarfile_expr_c36
@[simp] theorem grammarfile_expr_c37_eq {K : AK} {env : Env} {H : AHeap} : aw PP grammarfile_expr_c37 K env H = aw PP grammarfile_expr_c0 (seqK PP grammarfile_expr_c36 K) env H := aw_seq grammarfile_expr_c0 grammarfile_expr_c36
def grammarfile_expr_ac : AC := grammarfile_expr_c37
@[simp] theorem grammarfile_expr_ac_eq {K : AK} {env : Env} {H : AHeap} : aw PP grammarfile_expr_ac K env H = aw PP grammarfile_expr_c37 K env H := Eq.trans rfl rfl
def grammarfile_expr_rs : List ARV := [.tmp 4]
abbrev grammarfile_expr_id : Nat := 73
theorem grammarfile_expr_comp : compF PP grammarfile_expr_kl grammarfile_expr_ow 2 Try.f73 = some (grammarfile_expr_ac, grammarfile_expr_rs) := by kernel_rfl
theorem grammarfile_expr_enter {args : List AV} {H : AHeap} {post : ARes → AHeap → Prop} (ha : args.length = 2) (h : aw PP grammarfile_expr_ac (retK grammarfile_expr_rs post) (argEnv 0 args) H) : ACalls PP grammarfile_expr_id args H post := .enterF Try.func73 PP_mix grammarfile_expr_comp ha h

/-! emendate.grammarfile.name -/
def grammarfile_name_kl : Nat → List Nat
  | 0 => [2]
  | 1 => [4, 5, 6, 7, 8, 9, 10, 11, 12, 13, 14, 15, 16, 17, 18, 19, 20]
  | 2 => [0, 21]
  | 3 => [21, 22]
  | 5 => [25, 26]
  | 6 => [3, 27, 28, 29, 30, 31, 32, 33, 34, 35, 36, 37, 38, 39, 40, 41, 42, 43, 44, 45, 46, 47, 48, 49]
  | 7 => [0, 23, 24, 50]
  | 8 => [50, 51]
  | 9 => [0, 23, 24, 25]
  | _ => []
def grammarfile_name_ow : Nat → Nat → Bool := fun _ _ => false
def grammarfile_name_c0 : AC := .reg [⟨some 2, none, .mov (.c (.bool false))⟩] [2]
@[simp] theorem grammarfile_name_c0_eq {K : AK} {env : Env} {H : AHeap} : aw PP grammarfile_name_c0 K env H = awOps PP [⟨some 2, none, .mov (.c (.bool false))⟩] (regK K [2]) (panK K) env H := aw_reg _ _
def grammarfile_name_c1 : AC := .reg [⟨some 4, none, .mov (.t 0)⟩, ⟨some 5, none, .bin (.eql) (.t 4) (.c (.str []))⟩, ⟨some 6, none, .mov (.t 5)⟩, ⟨some 7, some (6, false), .mov (.t 0)⟩, ⟨some 8, some (6, false), .lens (.t 7)⟩, ⟨some 9, some (6, false), .bin (.gtr) (.t 8) (.c (.int (.i64) 24))⟩, ⟨some 10, none, .pick (.t 6) (.c (.bool true)) (.t 9)⟩, ⟨some 11, none, .mov (.t 10)⟩, ⟨some 12, some (11, false), .mov (.t 0)⟩, ⟨some 13, some (11, false), .ix (.t 12) (.c (.int (.i64) 0))⟩, ⟨some 14, some (11, false), .call (.c (.fn (.func 83) [] [])) [.t 13]⟩, ⟨some 15, some (11, false), .not (.t 14)⟩, ⟨some 16, none, .pick (.t 11) (.c (.bool true)) (.t 15)⟩, ⟨some 17, none, .mov (.t 16)⟩, ⟨some 18, some (17, false), .bsl false 9 1 5 (.str []) [(0, .c (.str [115, 116, 97, 114, 116])), (1, .c (.str [108, 101, 102, 116])), (2, .c (.str [114, 105, 103, 104, 116])), (3, .c (.str [110, 111, 110, 101])), (4, .c (.str [112, 114, 105, 99, 101]))]⟩, ⟨some 19, some (17, false), .mov (.t 0)⟩, ⟨some 20, some (17, false), .call (.c (.fn (.func 61) [] [])) [.t 18, .t 19]⟩, ⟨some 21, none, .pick (.t 17) (.c (.bool true)) (.t 20)⟩] [4, 5, 6, 7, 8, 9, 10, 11, 12, 13, 14, 15, 16, 17, 18, 19, 20]
@[simp] theorem grammarfile_name_c1_eq {K : AK} {env : Env} {H : AHeap} : aw PP grammarfile_name_c1 K env H = awOps PP [⟨some 4, none, .mov (.t 0)⟩, ⟨some 5, none, .bin (.eql) (.t 4) (.c (.str []))⟩, ⟨some 6, none, .mov (.t 5)⟩, ⟨some 7, some (6, false), .mov (.t 0)⟩, ⟨some 8, some (6, false), .lens (.t 7)⟩, ⟨some 9, some (6, false), .bin (.gtr) (.t 8) (.c (.int (.i64) 24))⟩, ⟨some 10, none, .pick (.t 6) (.c (.bool true)) (.t 9)⟩, ⟨some 11, none, .mov (.t 10)⟩, ⟨some 12, some (11, false), .mov (.t 0)⟩, ⟨some 13, some (11, false), .ix (.t 12) (.c (.int (.i64) 0))⟩, ⟨some 14, some (11, false), .call (.c (.fn (.func 83) [] [])) [.t 13]⟩, ⟨some 15, some (11, false), .not (.t 14)⟩, ⟨some 16, none, .pick (.t 11) (.c (.bool true)) (.t 15)⟩, ⟨some 17, none, .mov (.t 16)⟩, ⟨some 18, some (17, false), .bsl false 9 1 5 (.str []) [(0, .c (.str [115, 116, 97, 114, 116])), (1, .c (.str [108, 101, 102, 116])), (2, .c (.str [114, 105, 103, 104, 116])), (3, .c (.str [110, 111, 110, 101])), (4, .c (.str [112, 114, 105, 99, 101]))]⟩, ⟨some 19, some (17, false), .mov (.t 0)⟩, ⟨some 20, some (17, false), .call (.c (.fn (.func 61) [] [])) [.t 18, .t 19]⟩, ⟨some 21, none, .pick (.t 17) (.c (.bool true)) (.t 20)⟩] (regK K [4, 5, 6, 7, 8, 9, 10, 11, 12, 13, 14, 15, 16, 17, 18, 19, 20]) (panK K) env H := aw_reg _ _
def grammarfile_name_c2 : AC := .reg [⟨some 2, none, .mov (.c (.bool false))⟩] [0, 21]
@[simp] theorem grammarfile_name_c2_eq {K : AK} {env : Env} {H : AHeap} : aw PP grammarfile_name_c2 K env H = awOps PP [⟨some 2, none, .mov (.c (.bool false))⟩] (regK K [0, 21]) (panK K) env H := aw_reg _ _
def grammarfile_name_c3 : AC := .seq grammarfile_name_c2 .ret
@[simp] theorem grammarfile_name_c3_eq {K : AK} {env : Env} {H : AHeap} : aw PP grammarfile_name_c3 K env H = aw PP grammarfile_name_c2 (seqK PP .ret K) env H := aw_seq grammarfile_name_c2 .ret
def grammarfile_name_c4 : AC := .cond (.t 21) grammarfile_name_c3 .skip
@[simp] theorem grammarfile_name_c4_eq {K : AK} {env : Env} {H : AHeap} : aw PP grammarfile_name_c4 K env H = condQ PP (Opd.ev env (.t 21)) grammarfile_name_c3 .skip K env H := aw_cond _ grammarfile_name_c3 .skip
def grammarfile_name_c5 : AC := .seq grammarfile_name_c1 grammarfile_name_c4
@[simp] theorem grammarfile_name_c5_eq {K : AK} {env : Env} {H : AHeap} : aw PP grammarfile_name_c5 K env H = aw PP grammarfile_name_c1 (seqK PP grammarfile_name_c4 K) env H := aw_seq grammarfile_name_c1 grammarfile_name_c4
def grammarfile_name_c6 : AC := .reg [⟨some 22, none, .mov (.t 0)⟩, ⟨some 23, none, .lens (.t 22)⟩, ⟨some 24, none, .mov (.c (.int (.i64) 0))⟩] [21, 22]
@[simp] theorem grammarfile_name_c6_eq {K : AK} {env : Env} {H : AHeap} : aw PP grammarfile_name_c6 K env H = awOps PP [⟨some 22, none, .mov (.t 0)⟩, ⟨some 23, none, .lens (.t 22)⟩, ⟨some 24, none, .mov (.c (.int (.i64) 0))⟩] (regK K [21, 22]) (panK K) env H := aw_reg _ _
def grammarfile_name_c7 : AC := .reg [⟨some 25, none, .bin (.lss) (.t 24) (.t 23)⟩] []
@[simp] theorem grammarfile_name_c7_eq {K : AK} {env : Env} {H : AHeap} : aw PP grammarfile_name_c7 K env H = awOps PP [⟨some 25, none, .bin (.lss) (.t 24) (.t 23)⟩] (regK K []) (panK K) env H := aw_reg _ _
def grammarfile_name_c8 : AC := .cond (.t 25) .skip (.exit 0)
@[simp] theorem grammarfile_name_c8_eq {K : AK} {env : Env} {H : AHeap} : aw PP grammarfile_name_c8 K env H = condQ PP (Opd.ev env (.t 25)) .skip (.exit 0) K env H := aw_cond _ .skip (.exit 0)
def grammarfile_name_c9 : AC := .reg [⟨some 26, none, .mov (.t 24)⟩, ⟨some 3, none, .mov (.t 26)⟩] [25, 26]
@[simp] theorem grammarfile_name_c9_eq {K : AK} {env : Env} {H : AHeap} : aw PP grammarfile_name_c9 K env H = awOps PP [⟨some 26, none, .mov (.t 24)⟩, ⟨some 3, none, .mov (.t 26)⟩] (regK K [25, 26]) (panK K) env H := aw_reg _ _
def grammarfile_name_c10 : AC := .reg [⟨some 27, none, .mov (.t 0)⟩, ⟨some 28, none, .mov (.t 3)⟩, ⟨some 29, none, .ix (.t 27) (.t 28)⟩, ⟨some 30, none, .call (.c (.fn (.func 83) [] [])) [.t 29]⟩, ⟨some 31, none, .not (.t 30)⟩, ⟨some 32, none, .mov (.t 31)⟩, ⟨some 33, some (32, true), .mov (.t 0)⟩, ⟨some 34, some (32, true), .mov (.t 3)⟩, ⟨some 35, some (32, true), .ix (.t 33) (.t 34)⟩, ⟨some 36, some (32, true), .bin (.geq) (.t 35) (.c (.int (.u8) 48))⟩, ⟨some 37, some (32, true), .mov (.t 36)⟩, ⟨some 38, some (37, true), .mov (.t 0)⟩, ⟨some 39, some (37, true), .mov (.t 3)⟩, ⟨some 40, some (37, true), .ix (.t 38) (.t 39)⟩, ⟨some 41, some (37, true), .bin (.leq) (.t 40) (.c (.int (.u8) 57))⟩, ⟨some 42, some (32, true), .pick (.t 37) (.t 41) (.c (.bool false))⟩, ⟨some 43, some (32, true), .not (.t 42)⟩, ⟨some 44, none, .pick (.t 32) (.t 43) (.c (.bool false))⟩, ⟨some 45, none, .mov (.t 44)⟩, ⟨some 46, some (45, true), .mov (.t 0)⟩, ⟨some 47, some (45, true), .mov (.t 3)⟩, ⟨some 48, some (45, true), .ix (.t 46) (.t 47)⟩, ⟨some 49, some (45, true), .bin (.neq) (.t 48) (.c (.int (.u8) 95))⟩, ⟨some 50, none, .pick (.t 45) (.t 49) (.c (.bool false))⟩] [3, 27, 28, 29, 30, 31, 32, 33, 34, 35, 36, 37, 38, 39, 40, 41, 42, 43, 44, 45, 46, 47, 48, 49]
@[simp] theorem grammarfile_name_c10_eq {K : AK} {env : Env} {H : AHeap} : aw PP grammarfile_name_c10 K env H = awOps PP [⟨some 27, none, .mov (.t 0)⟩, ⟨some 28, none, .mov (.t 3)⟩, ⟨some 29, none, .ix (.t 27) (.t 28)⟩, ⟨some 30, none, .call (.c (.fn (.func 83) [] [])) [.t 29]⟩, ⟨some 31, none, .not (.t 30)⟩, ⟨some 32, none, .mov (.t 31)⟩, ⟨some 33, some (32, true), .mov (.t 0)⟩, ⟨some 34, some (32, true), .mov (.t 3)⟩, ⟨some 35, some (32, true), .ix (.t 33) (.t 34)⟩, ⟨some 36, some (32, true), .bin (.geq) (.t 35) (.c (.int (.u8) 48))⟩, ⟨some 37, some (32, true), .mov (.t 36)⟩, ⟨some 38, some (37, true), .mov (.t 0)⟩, ⟨some 39, some (37, true), .mov (.t 3)⟩, ⟨some 40, some (37, true), .ix (.t 38) (.t 39)⟩, ⟨some 41, some (37, true), .bin (.leq) (.t 40) (.c (.int (.u8) 57))⟩, ⟨some 42, some (32, true), .pick (.t 37) (.t 41) (.c (.bool false))⟩, ⟨some 43, some (32, true), .not (.t 42)⟩, ⟨some 44, none, .pick (.t 32) (.t 43) (.c (.bool false))⟩, ⟨some 45, none, .mov (.t 44)⟩, ⟨some 46, some (45, true), .mov (.t 0)⟩, ⟨some 47, some (45, true), .mov (.t 3)⟩, ⟨some 48, some (45, true), .ix (.t 46) (.t 47)⟩, ⟨some 49, some (45, true), .bin (.neq) (.t 48) (.c (.int (.u8) 95))⟩, ⟨some 50, none, .pick (.t 45) (.t 49) (.c (.bool false))⟩] (regK K [3, 27, 28, 29, 30, 31, 32, 33, 34, 35, 36, 37, 38, 39, 40, 41, 42, 43, 44, 45, 46, 47, 48, 49]) (panK K) env H := aw_reg _ _
def grammarfile_name_c11 : AC := .reg [⟨some 2, none, .mov (.c (.bool false))⟩] [0, 23, 24, 50]
@[simp] theorem grammarfile_name_c11_eq {K : AK} {env : Env} {H : AHeap} : aw PP grammarfile_name_c11 K env H = awOps PP [⟨some 2, none, .mov (.c (.bool false))⟩] (regK K [0, 23, 24, 50]) (panK K) env H := aw_reg _ _
def grammarfile_name_c12 : AC := .seq grammarfile_name_c11 .ret
@[simp] theorem grammarfile_name_c12_eq {K : AK} {env : Env} {H : AHeap} : aw PP grammarfile_name_c12 K env H = aw PP grammarfile_name_c11 (seqK PP .ret K) env H := aw_seq grammarfile_name_c11 .ret
def grammarfile_name_c13 : AC := .cond (.t 50) grammarfile_name_c12 .skip
@[simp] theorem grammarfile_name_c13_eq {K : AK} {env : Env} {H : AHeap} : aw PP grammarfile_name_c13 K env H = condQ PP (Opd.ev env (.t 50)) grammarfile_name_c12 .skip K env H := aw_cond _ grammarfile_name_c12 .skip
def grammarfile_name_c14 : AC := .seq grammarfile_name_c10 grammarfile_name_c13
@[simp] theorem grammarfile_name_c14_eq {K : AK} {env : Env} {H : AHeap} : aw PP grammarfile_name_c14 K env H = aw PP grammarfile_name_c10 (seqK PP grammarfile_name_c13 K) env H := aw_seq grammarfile_name_c10 grammarfile_name_c13
def grammarfile_name_c15 : AC := .seq grammarfile_name_c9 grammarfile_name_c14
@[simp] theorem grammarfile_name_c15_eq {K : AK} {env : Env} {H : AHeap} : aw PP grammarfile_name_c15 K env H = aw PP grammarfile_name_c9 (seqK PP grammarfile_name_c14 K) env H := aw_seq grammarfile_name_c9 grammarfile_name_c14
def grammarfile_name_c16 : AC := .block 1 grammarfile_name_c15
@[simp] theorem grammarfile_name_c16_eq {K : AK} {env : Env} {H : AHeap} : aw PP grammarfile_name_c16 K env H = aw PP grammarfile_name_c15 (blockK 1 K) env H := aw_block _ grammarfile_name_c15
def grammarfile_name_c17 : AC := .reg [⟨some 51, none, .bin (.add) (.t 24) (.c (.int (.i64) 1))⟩, ⟨some 24, none, .mov (.t 51)⟩] [50, 51]
@[simp] theorem grammarfile_name_c17_eq {K : AK} {env : Env} {H : AHeap} : aw PP grammarfile_name_c17 K env H = awOps PP [⟨some 51, none, .bin (.add) (.t 24) (.c (.int (.i64) 1))⟩, ⟨some 24, none, .mov (.t 51)⟩] (regK K [50, 51]) (panK K) env H := aw_reg _ _
def grammarfile_name_c18 : AC := .seq grammarfile_name_c16 grammarfile_name_c17
@[simp] theorem grammarfile_name_c18_eq {K : AK} {env : Env} {H : AHeap} : aw PP grammarfile_name_c18 K env H = aw PP grammarfile_name_c16 (seqK PP grammarfile_name_c17 K) env H := aw_seq grammarfile_name_c16 grammarfile_name_c17
def grammarfile_name_c19 : AC := .seq grammarfile_name_c8 grammarfile_name_c18
@[simp] theorem grammarfile_name_c19_eq {K : AK} {env : Env} {H : AHeap} : aw PP grammarfile_name_c19 K env H = aw PP grammarfile_name_c8 (seqK PP grammarfile_name_c18 K) env H := aw_seq grammarfile_name_c8 grammarfile_name_c18
def grammarfile_name_c20 : AC := .seq grammarfile_name_c7 grammarfile_name_c19
@[simp] theorem grammarfile_name_c20_eq {K : AK} {env : Env} {H : AHeap} : aw PP grammarfile_name_c20 K env H = aw PP grammarfile_name_c7 (seqK PP grammarfile_name_c19 K) env H := aw_seq grammarfile_name_c7 grammarfile_name_c19
def grammarfile_name_c21 : AC := .loop grammarfile_name_c20
def grammarfile_name_c22 : AC := .block 0 grammarfile_name_c21
@[simp] theorem grammarfile_name_c22_eq {K : AK} {env : Env} {H : AHeap} : aw PP grammarfile_name_c22 K env H = aw PP grammarfile_name_c21 (blockK 0 K) env H := aw_block _ grammarfile_name_c21
def grammarfile_name_c23 : AC := .seq grammarfile_name_c6 grammarfile_name_c22
@[simp] theorem grammarfile_name_c23_eq {K : AK} {env : Env} {H : AHeap} : aw PP grammarfile_name_c23 K env H = aw PP grammarfile_name_c6 (seqK PP grammarfile_name_c22 K) env H := aw_seq grammarfile_name_c6 grammarfile_name_c22
def grammarfile_name_c24 : AC := .reg [⟨some 2, none, .mov (.c (.bool true))⟩] [0, 23, 24, 25]
@[simp] theorem grammarfile_name_c24_eq {K : AK} {env : Env} {H : AHeap} : aw PP grammarfile_name_c24 K env H = awOps PP [⟨some 2, none, .mov (.c (.bool true))⟩] (regK K [0, 23, 24, 25]) (panK K) env H := aw_reg _ _
def grammarfile_name_c25 : AC := .seq grammarfile_name_c24 .ret
@[simp] theorem grammarfile_name_c25_eq {K : AK} {env : Env} {H : AHeap} : aw PP grammarfile_name_c25 K env H = aw PP grammarfile_name_c24 (seqK PP .ret K) env H := aw_seq grammarfile_name_c24 .ret
def grammarfile_name_c26 : AC := .seq grammarfile_name_c23 grammarfile_name_c25
@[simp] theorem grammarfile_name_c26_eq {K : AK} {env : Env} {H : AHeap} : aw PP grammarfile_name_c26 K env H = aw PP grammarfile_name_c23 (seqK PP grammarfile_name_c25 K) env H := aw_seq grammarfile_name_c23 grammarfile_name_c25
def grammarfile_name_c27 : AC := .seq grammarfile_name_c5 grammarfile_name_c26
@[simp] theorem grammarfile_name_c27_eq {K : AK} {env : Env} {H : AHeap} : aw PP grammarfile_name_c27 K env H = aw PP grammarfile_name_c5 (seqK PP grammarfile_name_c26 K) env H := aw_seq grammarfile_name_c5 grammarfile_name_c26
def grammarfile_name_c28 : AC := .seq grammarfile_name_c0 grammarfile_name_c27
@[simp] theorem grammarfile_name_c28_eq {K : AK} {env : Env} {H : AHeap} : aw PP grammarfile_name_c28 K env H = aw PP grammarfile_name_c0 (seqK PP grammarfile_name_c27 K) env H := aw_seq grammarfile_name_c0 grammarfile_name_c27
def grammarfile_name_ac : AC := grammarfile_name_c28
@[simp] theorem grammarfile_name_ac_eq {K : AK} {env : Env} {H : AHeap} : aw PP grammarfile_name_ac K env H = aw PP grammarfile_name_c28 K env H := Eq.trans rfl rfl
def grammarfile_name_rs : List ARV := [.tmp 2]
abbrev grammarfile_name_id : Nat := 74
theorem grammarfile_name_comp : compF PP grammarfile_name_kl grammarfile_name_ow 1 Try.f74 = some (grammarfile_name_ac, grammarfile_name_rs) := by kernel_rfl
theorem grammarfile_name_enter {args : List AV} {H : AHeap} {post : ARes → AHeap → Prop} (ha : args.length = 1) (h : aw PP grammarfile_name_ac (retK grammarfile_name_rs post) (argEnv 0 args) H) : ACalls PP grammarfile_name_id args H post := .enterF Try.func74 PP_mix grammarfile_name_comp ha h

/-! slices.Index[[]string,string] -/
def slices_Index_string_kl : Nat → List Nat
  | 0 => [4]
  | 1 => [6]
  | 3 => [9, 10]
  | 4 => [11, 12, 13, 14, 15]
  | 5 => [0, 1, 5, 7, 8, 16, 17]
  | 6 => [5, 16, 18]
  | 7 => [0, 1, 7, 8, 9]
  | _ => []
def slices_Index_string_ow : Nat → Nat → Bool := fun _ _ => false
def slices_Index_string_c0 : AC := .reg [⟨some 4, none, .mov (.c (.int (.i64) 0))⟩] [4]
@[simp] theorem slices_Index_string_c0_eq {K : AK} {env : Env} {H : AHeap} : aw PP slices_Index_string_c0 K env H = awOps PP [⟨some 4, none, .mov (.c (.int (.i64) 0))⟩] (regK K [4]) (panK K) env H := aw_reg _ _
def slices_Index_string_c1 : AC := .reg [⟨some 6, none, .mov (.t 0)⟩, ⟨some 7, none, .lenl (.t 6)⟩, ⟨some 8, none, .mov (.c (.int (.i64) 0))⟩] [6]
@[simp] theorem slices_Index_string_c1_eq {K : AK} {env : Env} {H : AHeap} : aw PP slices_Index_string_c1 K env H = awOps PP [⟨some 6, none, .mov (.t 0)⟩, ⟨some 7, none, .lenl (.t 6)⟩, ⟨some 8, none, .mov (.c (.int (.i64) 0))⟩] (regK K [6]) (panK K) env H := aw_reg _ _
def slices_Index_string_c2 : AC := .reg [⟨some 9, none, .bin (.lss) (.t 8) (.t 7)⟩] []
@[simp] theorem slices_Index_string_c2_eq {K : AK} {env : Env} {H : AHeap} : aw PP slices_Index_string_c2 K env H = awOps PP [⟨some 9, none, .bin (.lss) (.t 8) (.t 7)⟩] (regK K []) (panK K) env H := aw_reg _ _
def slices_Index_string_c3 : AC := .cond (.t 9) .skip (.exit 0)
@[simp] theorem slices_Index_string_c3_eq {K : AK} {env : Env} {H : AHeap} : aw PP slices_Index_string_c3 K env H = condQ PP (Opd.ev env (.t 9)) .skip (.exit 0) K env H := aw_cond _ .skip (.exit 0)
def slices_Index_string_c4 : AC := .reg [⟨some 10, none, .mov (.t 8)⟩, ⟨some 5, none, .mov (.t 10)⟩] [9, 10]
@[simp] theorem slices_Index_string_c4_eq {K : AK} {env : Env} {H : AHeap} : aw PP slices_Index_string_c4 K env H = awOps PP [⟨some 10, none, .mov (.t 8)⟩, ⟨some 5, none, .mov (.t 10)⟩] (regK K [9, 10]) (panK K) env H := aw_reg _ _
def slices_Index_string_c5 : AC := .reg [⟨some 11, none, .mov (.t 1)⟩, ⟨some 12, none, .mov (.t 0)⟩, ⟨some 13, none, .mov (.t 5)⟩, ⟨some 14, none, .ixa 1 (.t 12) (.t 13)⟩, ⟨some 15, none, .ld false 1 (.t 14)⟩, ⟨some 16, none, .bin (.eql) (.t 11) (.t 15)⟩] [11, 12, 13, 14, 15]
@[simp] theorem slices_Index_string_c5_eq {K : AK} {env : Env} {H : AHeap} : aw PP slices_Index_string_c5 K env H = awOps PP [⟨some 11, none, .mov (.t 1)⟩, ⟨some 12, none, .mov (.t 0)⟩, ⟨some 13, none, .mov (.t 5)⟩, ⟨some 14, none, .ixa 1 (.t 12) (.t 13)⟩, ⟨some 15, none, .ld false 1 (.t 14)⟩, ⟨some 16, none, .bin (.eql) (.t 11) (.t 15)⟩] (regK K [11, 12, 13, 14, 15]) (panK K) env H := aw_reg _ _
def slices_Index_string_c6 : AC := .reg [⟨some 17, none, .mov (.t 5)⟩, ⟨some 4, none, .mov (.t 17)⟩] [0, 1, 5, 7, 8, 16, 17]
@[simp] theorem slices_Index_string_c6_eq {K : AK} {env : Env} {H : AHeap} : aw PP slices_Index_string_c6 K env H = awOps PP [⟨some 17, none, .mov (.t 5)⟩, ⟨some 4, none, .mov (.t 17)⟩] (regK K [0, 1, 5, 7, 8, 16, 17]) (panK K) env H := aw_reg _ _
def slices_Index_string_c7 : AC := .seq slices_Index_string_c6 .ret
@[simp] theorem slices_Index_string_c7_eq {K : AK} {env : Env} {H : AHeap} : aw PP slices_Index_string_c7 K env H = aw PP slices_Index_string_c6 (seqK PP .ret K) env H := aw_seq slices_Index_string_c6 .ret
def slices_Index_string_c8 : AC := .cond (.t 16) slices_Index_string_c7 .skip
@[simp] theorem slices_Index_string_c8_eq {K : AK} {env : Env} {H : AHeap} : aw PP slices_Index_string_c8 K env H = condQ PP (Opd.ev env (.t 16)) slices_Index_string_c7 .skip K env H := aw_cond _ slices_Index_string_c7 .skip
def slices_Index_string_c9 : AC := .seq slices_Index_string_c5 slices_Index_string_c8
@[simp] theorem slices_Index_string_c9_eq {K : AK} {env : Env} {H : AHeap} : aw PP slices_Index_string_c9 K env H = aw PP slices_Index_string_c5 (seqK PP slices_Index_string_c8 K) env H := aw_seq slices_Index_string_c5 slices_Index_string_c8
def slices_Index_string_c10 : AC := .seq slices_Index_string_c4 slices_Index_string_c9
@[simp] theorem slices_Index_string_c10_eq {K : AK} {env : Env} {H : AHeap} : aw PP slices_Index_string_c10 K env H = aw PP slices_Index_string_c4 (seqK PP slices_Index_string_c9 K) env H := aw_seq slices_Index_string_c4 slices_Index_string_c9
def slices_Index_string_c11 : AC := .block 1 slices_Index_string_c10
@[simp] theorem slices_Index_string_c11_eq {K : AK} {env : Env} {H : AHeap} : aw PP slices_Index_string_c11 K env H = aw PP slices_Index_string_c10 (blockK 1 K) env H := aw_block _ slices_Index_string_c10
def slices_Index_string_c12 : AC := .reg [⟨some 18, none, .bin (.add) (.t 8) (.c (.int (.i64) 1))⟩, ⟨some 8, none, .mov (.t 18)⟩] [5, 16, 18]
@[simp] theorem slices_Index_string_c12_eq {K : AK} {env : Env} {H : AHeap} : aw PP slices_Index_string_c12 K env H = awOps PP [⟨some 18, none, .bin (.add) (.t 8) (.c (.int (.i64) 1))⟩, ⟨some 8, none, .mov (.t 18)⟩] (regK K [5, 16, 18]) (panK K) env H := aw_reg _ _
def slices_Index_string_c13 : AC := .seq slices_Index_string_c11 slices_Index_string_c12
@[simp] theorem slices_Index_string_c13_eq {K : AK} {env : Env} {H : AHeap} : aw PP slices_Index_string_c13 K env H = aw PP slices_Index_string_c11 (seqK PP slices_Index_string_c12 K) env H := aw_seq slices_Index_string_c11 slices_Index_string_c12
def slices_Index_string_c14 : AC := .seq slices_Index_string_c3 slices_Index_string_c13
@[simp] theorem slices_Index_string_c14_eq {K : AK} {env : Env} {H : AHeap} : aw PP slices_Index_string_c14 K env H = aw PP slices_Index_string_c3 (seqK PP slices_Index_string_c13 K) env H := aw_seq slices_Index_string_c3 slices_Index_string_c13
def slices_Index_string_c15 : AC := .seq slices_Index_string_c2 slices_Index_string_c14
@[simp] theorem slices_Index_string_c15_eq {K : AK} {env : Env} {H : AHeap} : aw PP slices_Index_string_c15 K env H = aw PP slices_Index_string_c2 (seqK PP slices_Index_string_c14 K) env H := aw_seq slices_Index_string_c2 slices_Index_string_c14
def slices_Index_string_c16 : AC := .loop slices_Index_string_c15
def slices_Index_string_c17 : AC := .block 0 slices_Index_string_c16
@[simp] theorem slices_Index_string_c17_eq {K : AK} {env : Env} {H : AHeap} : aw PP slices_Index_string_c17 K env H = aw PP slices_Index_string_c16 (blockK 0 K) env H := aw_block _ slices_Index_string_c16
def slices_Index_string_c18 : AC := .seq slices_Index_string_c1 slices_Index_string_c17
@[simp] theorem slices_Index_string_c18_eq {K : AK} {env : Env} {H : AHeap} : aw PP slices_Index_string_c18 K env H = aw PP slices_Index_string_c1 (seqK PP slices_Index_string_c17 K) env H := aw_seq slices_Index_string_c1 slices_Index_string_c17
def slices_Index_string_c19 : AC := .reg [⟨some 4, none, .mov (.c (.int (.i64) (-1)))⟩] [0, 1, 7, 8, 9]
@[simp] theorem slices_Index_string_c19_eq {K : AK} {env : Env} {H : AHeap} : aw PP slices_Index_string_c19 K env H = awOps PP [⟨some 4, none, .mov (.c (.int (.i64) (-1)))⟩] (regK K [0, 1, 7, 8, 9]) (panK K) env H := aw_reg _ _
def slices_Index_string_c20 : AC := .seq slices_Index_string_c19 .ret
@[simp] theorem slices_Index_string_c20_eq {K : AK} {env : Env} {H : AHeap} : aw PP slices_Index_string_c20 K env H = aw PP slices_Index_string_c19 (seqK PP .ret K) env H := aw_seq slices_Index_string_c19 .ret
def slices_Index_string_c21 : AC := .seq slices_Index_string_c18 slices_Index_string_c20
@[simp] theorem slices_Index_string_c21_eq {K : AK} {env : Env} {H : AHeap} : aw PP slices_Index_string_c21 K env H = aw PP slices_Index_string_c18 (seqK PP slices_Index_string_c20 K) env H := aw_seq slices_Index_string_c18 slices_Index_string_c20
def slices_Index_string_c22 : AC := .seq slices_Index_string_c0 slices_Index_string_c21
@[simp] theorem slices_Index_string_c22_eq {K : AK} {env : Env} {H : AHeap} : aw PP slices_Index_string_c22 K env H = aw PP slices_Index_string_c0 (seqK PP slices_Index_string_c21 K) env H := aw_seq slices_Index_string_c0 slices_Index_string_c21
def slices_Index_string_ac : AC := slices_Index_string_c22
@[simp] theorem slices_Index_string_ac_eq {K : AK} {env : Env} {H : AHeap} : aw PP slices_Index_string_ac K env H = aw PP slices_Index_string_c22 K env H := Eq.trans rfl rfl
def slices_Index_string_rs : List ARV := [.tmp 4]
abbrev slices_Index_string_id : Nat := 75
theorem slices_Index_string_comp : compF PP slices_Index_string_kl slices_Index_string_ow 2 Try.f75 = some (slices_Index_string_ac, slices_Index_string_rs) := by kernel_rfl
theorem slices_Index_string_enter {args : List AV} {H : AHeap} {post : ARes → AHeap → Prop} (ha : args.length = 2) (h : aw PP slices_Index_string_ac (retK slices_Index_string_rs post) (argEnv 0 args) H) : ACalls PP slices_Index_string_id args H post := .enterF Try.func75 PP_mix slices_Index_string_comp ha h

/-! (*emendate.emendateref17.parser).items -/
def ref17_parser_items_kl : Nat → List Nat
  | 2 => [4, 5, 6, 7, 8, 9, 10, 11, 12, 13, 14, 15]
  | 3 => [16, 17, 18, 19, 20, 21]
  | 4 => [0, 16, 22, 23]
  | 5 => [3, 24, 25, 26, 27]
  | 6 => [3, 24, 28, 29]
  | _ => []
def ref17_parser_items_ow : Nat → Nat → Bool := fun _ _ => false
def ref17_parser_items_c0 : AC := .reg [⟨some 2, none, .alloc (.struct [.int (.i64) 0, .str [], .nils]) 47⟩] []
@[simp] theorem ref17_parser_items_c0_eq {K : AK} {env : Env} {H : AHeap} : aw PP ref17_parser_items_c0 K env H = awOps PP [⟨some 2, none, .alloc (.struct [.int (.i64) 0, .str [], .nils]) 47⟩] (regK K []) (panK K) env H := aw_reg _ _
def ref17_parser_items_c1 : AC := .reg [⟨some 3, none, .mov (.c (.nils))⟩] []
@[simp] theorem ref17_parser_items_c1_eq {K : AK} {env : Env} {H : AHeap} : aw PP ref17_parser_items_c1 K env H = awOps PP [⟨some 3, none, .mov (.c (.nils))⟩] (regK K []) (panK K) env H := aw_reg _ _
def ref17_parser_items_c2 : AC := .reg [⟨some 4, none, .mov (.t 0)⟩, ⟨some 5, none, .nilc (.t 4)⟩, ⟨some 6, none, .fa 3 3 (.t 5)⟩, ⟨some 7, none, .ld false 1 (.t 6)⟩, ⟨some 8, none, .not (.t 7)⟩, ⟨some 9, none, .mov (.t 8)⟩, ⟨some 10, some (9, true), .mov (.t 0)⟩, ⟨some 11, some (9, true), .call (.c (.fn (.func 30) [] [])) [.t 10]⟩, ⟨some 12, some (9, true), .mov (.t 11)⟩, ⟨some 13, some (12, false), .mov (.t 0)⟩, ⟨some 14, some (12, false), .call (.c (.fn (.func 28) [] [])) [.t 13, .c (.str [40])]⟩, ⟨some 15, some (9, true), .pick (.t 12) (.c (.bool true)) (.t 14)⟩, ⟨some 16, none, .pick (.t 9) (.t 15) (.c (.bool false))⟩] [4, 5, 6, 7, 8, 9, 10, 11, 12, 13, 14, 15]
@[simp] theorem ref17_parser_items_c2_eq {K : AK} {env : Env} {H : AHeap} : aw PP ref17_parser_items_c2 K env H = awOps PP [⟨some 4, none, .mov (.t 0)⟩, ⟨some 5, none, .nilc (.t 4)⟩, ⟨some 6, none, .fa 3 3 (.t 5)⟩, ⟨some 7, none, .ld false 1 (.t 6)⟩, ⟨some 8, none, .not (.t 7)⟩, ⟨some 9, none, .mov (.t 8)⟩, ⟨some 10, some (9, true), .mov (.t 0)⟩, ⟨some 11, some (9, true), .call (.c (.fn (.func 30) [] [])) [.t 10]⟩, ⟨some 12, some (9, true), .mov (.t 11)⟩, ⟨some 13, some (12, false), .mov (.t 0)⟩, ⟨some 14, some (12, false), .call (.c (.fn (.func 28) [] [])) [.t 13, .c (.str [40])]⟩, ⟨some 15, some (9, true), .pick (.t 12) (.c (.bool true)) (.t 14)⟩, ⟨some 16, none, .pick (.t 9) (.t 15) (.c (.bool false))⟩] (regK K [4, 5, 6, 7, 8, 9, 10, 11, 12, 13, 14, 15]) (panK K) env H := aw_reg _ _
def ref17_parser_items_c3 : AC := .cond (.t 16) .skip (.exit 0)
@[simp] theorem ref17_parser_items_c3_eq {K : AK} {env : Env} {H : AHeap} : aw PP ref17_parser_items_c3 K env H = condQ PP (Opd.ev env (.t 16)) .skip (.exit 0) K env H := aw_cond _ .skip (.exit 0)
def ref17_parser_items_c4 : AC := .seq ref17_parser_items_c2 ref17_parser_items_c3
@[simp] theorem ref17_parser_items_c4_eq {K : AK} {env : Env} {H : AHeap} : aw PP ref17_parser_items_c4 K env H = aw PP ref17_parser_items_c2 (seqK PP ref17_parser_items_c3 K) env H := aw_seq ref17_parser_items_c2 ref17_parser_items_c3
def ref17_parser_items_c5 : AC := .reg [⟨some 17, none, .mov (.t 3)⟩, ⟨some 18, none, .mov (.t 0)⟩, ⟨some 19, none, .call (.c (.fn (.func 84) [] [])) [.t 18]⟩, ⟨some 20, none, .bsl false 47 3 1 (.struct [.int (.i64) 0, .str [], .nils]) [(0, .t 19)]⟩, ⟨some 21, none, .app 47 3 48 (.t 17) (.t 20)⟩, ⟨some 3, none, .mov (.t 21)⟩] [16, 17, 18, 19, 20, 21]
@[simp] theorem ref17_parser_items_c5_eq {K : AK} {env : Env} {H : AHeap} : aw PP ref17_parser_items_c5 K env H = awOps PP [⟨some 17, none, .mov (.t 3)⟩, ⟨some 18, none, .mov (.t 0)⟩, ⟨some 19, none, .call (.c (.fn (.func 84) [] [])) [.t 18]⟩, ⟨some 20, none, .bsl false 47 3 1 (.struct [.int (.i64) 0, .str [], .nils]) [(0, .t 19)]⟩, ⟨some 21, none, .app 47 3 48 (.t 17) (.t 20)⟩, ⟨some 3, none, .mov (.t 21)⟩] (regK K [16, 17, 18, 19, 20, 21]) (panK K) env H := aw_reg _ _
def ref17_parser_items_c6 : AC := .block 1 ref17_parser_items_c5
@[simp] theorem ref17_parser_items_c6_eq {K : AK} {env : Env} {H : AHeap} : aw PP ref17_parser_items_c6 K env H = aw PP ref17_parser_items_c5 (blockK 1 K) env H := aw_block _ ref17_parser_items_c5
def ref17_parser_items_c7 : AC := .seq ref17_parser_items_c4 ref17_parser_items_c6
@[simp] theorem ref17_parser_items_c7_eq {K : AK} {env : Env} {H : AHeap} : aw PP ref17_parser_items_c7 K env H = aw PP ref17_parser_items_c4 (seqK PP ref17_parser_items_c6 K) env H := aw_seq ref17_parser_items_c4 ref17_parser_items_c6
def ref17_parser_items_c8 : AC := .loop ref17_parser_items_c7
def ref17_parser_items_c9 : AC := .block 0 ref17_parser_items_c8
@[simp] theorem ref17_parser_items_c9_eq {K : AK} {env : Env} {H : AHeap} : aw PP ref17_parser_items_c9 K env H = aw PP ref17_parser_items_c8 (blockK 0 K) env H := aw_block _ ref17_parser_items_c8
def ref17_parser_items_c10 : AC := .reg [⟨some 22, none, .mov (.t 3)⟩, ⟨some 23, none, .lenl (.t 22)⟩, ⟨some 24, none, .bin (.eql) (.t 23) (.c (.int (.i64) 1))⟩] [0, 16, 22, 23]
@[simp] theorem ref17_parser_items_c10_eq {K : AK} {env : Env} {H : AHeap} : aw PP ref17_parser_items_c10 K env H = awOps PP [⟨some 22, none, .mov (.t 3)⟩, ⟨some 23, none, .lenl (.t 22)⟩, ⟨some 24, none, .bin (.eql) (.t 23) (.c (.int (.i64) 1))⟩] (regK K [0, 16, 22, 23]) (panK K) env H := aw_reg _ _
def ref17_parser_items_c11 : AC := .reg [⟨some 25, none, .mov (.t 3)⟩, ⟨some 26, none, .ixa 3 (.t 25) (.c (.int (.i64) 0))⟩, ⟨some 27, none, .ld true 3 (.t 26)⟩, ⟨none, none, .st 3 (.t 2) (.t 27)⟩] [3, 24, 25, 26, 27]
@[simp] theorem ref17_parser_items_c11_eq {K : AK} {env : Env} {H : AHeap} : aw PP ref17_parser_items_c11 K env H = awOps PP [⟨some 25, none, .mov (.t 3)⟩, ⟨some 26, none, .ixa 3 (.t 25) (.c (.int (.i64) 0))⟩, ⟨some 27, none, .ld true 3 (.t 26)⟩, ⟨none, none, .st 3 (.t 2) (.t 27)⟩] (regK K [3, 24, 25, 26, 27]) (panK K) env H := aw_reg _ _
def ref17_parser_items_c12 : AC := .seq ref17_parser_items_c11 .ret
@[simp] theorem ref17_parser_items_c12_eq {K : AK} {env : Env} {H : AHeap} : aw PP ref17_parser_items_c12 K env H = aw PP ref17_parser_items_c11 (seqK PP .ret K) env H := aw_seq ref17_parser_items_c11 .ret
def ref17_parser_items_c13 : AC := .cond (.t 24) ref17_parser_items_c12 .skip
@[simp] theorem ref17_parser_items_c13_eq {K : AK} {env : Env} {H : AHeap} : aw PP ref17_parser_items_c13 K env H = condQ PP (Opd.ev env (.t 24)) ref17_parser_items_c12 .skip K env H := aw_cond _ ref17_parser_items_c12 .skip
def ref17_parser_items_c14 : AC := .seq ref17_parser_items_c10 ref17_parser_items_c13
@[simp] theorem ref17_parser_items_c14_eq {K : AK} {env : Env} {H : AHeap} : aw PP ref17_parser_items_c14 K env H = aw PP ref17_parser_items_c10 (seqK PP ref17_parser_items_c13 K) env H := aw_seq ref17_parser_items_c10 ref17_parser_items_c13
def ref17_parser_items_c15 : AC := .reg [⟨some 28, none, .mov (.t 3)⟩, ⟨some 29, none, .build [.int (.i64) 0, .str [], .nils] [(0, .c (.int (.i64) 2)), (2, .t 28)]⟩, ⟨none, none, .st 3 (.t 2) (.t 29)⟩] [3, 24, 28, 29]
@[simp] theorem ref17_parser_items_c15_eq {K : AK} {env : Env} {H : AHeap} : aw PP ref17_parser_items_c15 K env H = awOps PP [⟨some 28, none, .mov (.t 3)⟩, ⟨some 29, none, .build [.int (.i64) 0, .str [], .nils] [(0, .c (.int (.i64) 2)), (2, .t 28)]⟩, ⟨none, none, .st 3 (.t 2) (.t 29)⟩] (regK K [3, 24, 28, 29]) (panK K) env H := aw_reg _ _
def ref17_parser_items_c16 : AC := .seq ref17_parser_items_c15 .ret
@[simp] theorem ref17_parser_items_c16_eq {K : AK} {env : Env} {H : AHeap} : aw PP ref17_parser_items_c16 K env H = aw PP ref17_parser_items_c15 (seqK PP .ret K) env H := aw_seq ref17_parser_items_c15 .ret
def ref17_parser_items_c17 : AC := .seq ref17_parser_items_c14 ref17_parser_items_c16
@[simp] theorem ref17_parser_items_c17_eq {K : AK} {env : Env} {H : AHeap} : aw PP ref17_parser_items_c17 K env H = aw PP ref17_parser_items_c14 (seqK PP ref17_parser_items_c16 K) env H := aw_seq ref17_parser_items_c14 ref17_parser_items_c16
def ref17_parser_items_c18 : AC := .seq ref17_parser_items_c9 ref17_parser_items_c17
@[simp] theorem ref17_parser_items_c18_eq {K : AK} {env : Env} {H : AHeap} : aw PP ref17_parser_items_c18 K env H = aw PP ref17_parser_items_c9 (seqK PP ref17_parser_items_c17 K) env H := aw_seq ref17_parser_items_c9 ref17_parser_items_c17
def ref17_parser_items_c19 : AC := .seq ref17_parser_items_c1 ref17_parser_items_c18
@[simp] theorem ref17_parser_items_c19_eq {K : AK} {env : Env} {H : AHeap} : aw PP ref17_parser_items_c19 K env H = aw PP ref17_parser_items_c1 (seqK PP ref17_parser_items_c18 K) env H := aw_seq ref17_parser_items_c1 ref17_parser_items_c18
def ref17_parser_items_c20 : AC := .seq ref17_parser_items_c0 ref17_parser_items_c19
@[simp] theorem ref17_parser_items_c20_eq {K : AK} {env : Env} {H : AHeap} : aw PP ref17_parser_items_c20 K env H = aw PP ref17_parser_items_c0 (seqK PP ref17_parser_items_c19 K) env H := aw_seq ref17_parser_items_c0 ref17_parser_items_c19
def ref17_parser_items_ac : AC := ref17_parser_items_c20
@[simp] theorem ref17_parser_items_ac_eq {K : AK} {env : Env} {H : AHeap} : aw PP ref17_parser_items_ac K env H = aw PP ref17_parser_items_c20 K env H := Eq.trans rfl rfl
def ref17_parser_items_rs : List ARV := [.cell 2 true 3]
abbrev ref17_parser_items_id : Nat := 76
theorem ref17_parser_items_comp : compF PP ref17_parser_items_kl ref17_parser_items_ow 1 Try.f76 = some (ref17_parser_items_ac, ref17_parser_items_rs) := by kernel_rfl
theorem ref17_parser_items_enter {args : List AV} {H : AHeap} {post : ARes → AHeap → Prop} (ha : args.length = 1) (h : aw PP ref17_parser_items_ac (retK ref17_parser_items_rs post) (argEnv 0 args) H) : ACalls PP ref17_parser_items_id args H post := .enterF Try.func76 PP_mix ref17_parser_items_comp ha h

/-! (*emendate.emendateref17.parser).number -/
def ref17_parser_number_kl : Nat → List Nat
  | 0 => [2]
  | 1 => [6, 7]
  | 2 => [8, 9, 10, 11, 12, 13, 14, 15, 16, 17, 18, 19, 20]
  | 3 => [0, 3, 21, 22, 23, 24]
  | 5 => [21]
  | 7 => [25, 26, 27]
  | 8 => [29, 30]
  | 9 => [28, 31, 32, 33, 34, 35, 36, 37, 38, 39]
  | 10 => [0, 3, 5, 28, 40, 41]
  | 11 => [4, 42]
  | _ => []
def ref17_parser_number_ow : Nat → Nat → Bool := fun _ _ => false
def ref17_parser_number_c0 : AC := .reg [⟨some 2, none, .mov (.c (.int (.i64) 0))⟩] [2]
@[simp] theorem ref17_parser_number_c0_eq {K : AK} {env : Env} {H : AHeap} : aw PP ref17_parser_number_c0 K env H = awOps PP [⟨some 2, none, .mov (.c (.int (.i64) 0))⟩] (regK K [2]) (panK K) env H := aw_reg _ _
def ref17_parser_number_c1 : AC := .reg [⟨some 6, none, .mov (.t 0)⟩, ⟨some 7, none, .call (.c (.fn (.func 34) [] [])) [.t 6]⟩, ⟨some 3, none, .mov (.t 7)⟩] [6, 7]
@[simp] theorem ref17_parser_number_c1_eq {K : AK} {env : Env} {H : AHeap} : aw PP ref17_parser_number_c1 K env H = awOps PP [⟨some 6, none, .mov (.t 0)⟩, ⟨some 7, none, .call (.c (.fn (.func 34) [] [])) [.t 6]⟩, ⟨some 3, none, .mov (.t 7)⟩] (regK K [6, 7]) (panK K) env H := aw_reg _ _
def ref17_parser_number_c2 : AC := .reg [⟨some 8, none, .mov (.t 0)⟩, ⟨some 9, none, .nilc (.t 8)⟩, ⟨some 10, none, .fa 3 3 (.t 9)⟩, ⟨some 11, none, .ld false 1 (.t 10)⟩, ⟨some 12, none, .mov (.t 11)⟩, ⟨some 13, some (12, false), .mov (.t 3)⟩, ⟨some 14, some (12, false), .bin (.eql) (.t 13) (.c (.str []))⟩, ⟨some 15, none, .pick (.t 12) (.c (.bool true)) (.t 14)⟩, ⟨some 16, none, .mov (.t 15)⟩, ⟨some 17, some (16, false), .mov (.t 3)⟩, ⟨some 18, some (16, false), .ix (.t 17) (.c (.int (.i64) 0))⟩, ⟨some 19, some (16, false), .call (.c (.fn (.func 64) [] [])) [.t 18]⟩, ⟨some 20, some (16, false), .not (.t 19)⟩, ⟨some 21, none, .pick (.t 16) (.c (.bool true)) (.t 20)⟩] [8, 9, 10, 11, 12, 13, 14, 15, 16, 17, 18, 19, 20]
@[simp] theorem ref17_parser_number_c2_eq {K : AK} {env : Env} {H : AHeap} : aw PP ref17_parser_number_c2 K env H = awOps PP [⟨some 8, none, .mov (.t 0)⟩, ⟨some 9, none, .nilc (.t 8)⟩, ⟨some 10, none, .fa 3 3 (.t 9)⟩, ⟨some 11, none, .ld false 1 (.t 10)⟩, ⟨some 12, none, .mov (.t 11)⟩, ⟨some 13, some (12, false), .mov (.t 3)⟩, ⟨some 14, some (12, false), .bin (.eql) (.t 13) (.c (.str []))⟩, ⟨some 15, none, .pick (.t 12) (.c (.bool true)) (.t 14)⟩, ⟨some 16, none, .mov (.t 15)⟩, ⟨some 17, some (16, false), .mov (.t 3)⟩, ⟨some 18, some (16, false), .ix (.t 17) (.c (.int (.i64) 0))⟩, ⟨some 19, some (16, false), .call (.c (.fn (.func 64) [] [])) [.t 18]⟩, ⟨some 20, some (16, false), .not (.t 19)⟩, ⟨some 21, none, .pick (.t 16) (.c (.bool true)) (.t 20)⟩] (regK K [8, 9, 10, 11, 12, 13, 14, 15, 16, 17, 18, 19, 20]) (panK K) env H := aw_reg _ _
def ref17_parser_number_c3 : AC := .reg [⟨some 22, none, .mov (.t 0)⟩, ⟨some 23, none, .nilc (.t 22)⟩, ⟨some 24, none, .fa 3 3 (.t 23)⟩, ⟨none, none, .st 1 (.t 24) (.c (.bool true))⟩] [0, 3, 21, 22, 23, 24]
@[simp] theorem ref17_parser_number_c3_eq {K : AK} {env : Env} {H : AHeap} : aw PP ref17_parser_number_c3 K env H = awOps PP [⟨some 22, none, .mov (.t 0)⟩, ⟨some 23, none, .nilc (.t 22)⟩, ⟨some 24, none, .fa 3 3 (.t 23)⟩, ⟨none, none, .st 1 (.t 24) (.c (.bool true))⟩] (regK K [0, 3, 21, 22, 23, 24]) (panK K) env H := aw_reg _ _
def ref17_parser_number_c4 : AC := .reg [⟨some 2, none, .mov (.c (.int (.i64) 0))⟩] []
@[simp] theorem ref17_parser_number_c4_eq {K : AK} {env : Env} {H : AHeap} : aw PP ref17_parser_number_c4 K env H = awOps PP [⟨some 2, none, .mov (.c (.int (.i64) 0))⟩] (regK K []) (panK K) env H := aw_reg _ _
def ref17_parser_number_c5 : AC := .seq ref17_parser_number_c4 .ret
@[simp] theorem ref17_parser_number_c5_eq {K : AK} {env : Env} {H : AHeap} : aw PP ref17_parser_number_c5 K env H = aw PP ref17_parser_number_c4 (seqK PP .ret K) env H := aw_seq ref17_parser_number_c4 .ret
def ref17_parser_number_c6 : AC := .seq ref17_parser_number_c3 ref17_parser_number_c5
@[simp] theorem ref17_parser_number_c6_eq {K : AK} {env : Env} {H : AHeap} : aw PP ref17_parser_number_c6 K env H = aw PP ref17_parser_number_c3 (seqK PP ref17_parser_number_c5 K) env H := aw_seq ref17_parser_number_c3 ref17_parser_number_c5
def ref17_parser_number_c7 : AC := .cond (.t 21) ref17_parser_number_c6 .skip
@[simp] theorem ref17_parser_number_c7_eq {K : AK} {env : Env} {H : AHeap} : aw PP ref17_parser_number_c7 K env H = condQ PP (Opd.ev env (.t 21)) ref17_parser_number_c6 .skip K env H := aw_cond _ ref17_parser_number_c6 .skip
def ref17_parser_number_c8 : AC := .seq ref17_parser_number_c2 ref17_parser_number_c7
@[simp] theorem ref17_parser_number_c8_eq {K : AK} {env : Env} {H : AHeap} : aw PP ref17_parser_number_c8 K env H = aw PP ref17_parser_number_c2 (seqK PP ref17_parser_number_c7 K) env H := aw_seq ref17_parser_number_c2 ref17_parser_number_c7
def ref17_parser_number_c9 : AC := .reg [⟨some 4, none, .mov (.c (.int (.i64) 0))⟩] [21]
@[simp] theorem ref17_parser_number_c9_eq {K : AK} {env : Env} {H : AHeap} : aw PP ref17_parser_number_c9 K env H = awOps PP [⟨some 4, none, .mov (.c (.int (.i64) 0))⟩] (regK K [21]) (panK K) env H := aw_reg _ _
def ref17_parser_number_c10 : AC := .reg [⟨some 5, none, .mov (.c (.int (.i64) 0))⟩] []
@[simp] theorem ref17_parser_number_c10_eq {K : AK} {env : Env} {H : AHeap} : aw PP ref17_parser_number_c10 K env H = awOps PP [⟨some 5, none, .mov (.c (.int (.i64) 0))⟩] (regK K []) (panK K) env H := aw_reg _ _
def ref17_parser_number_c11 : AC := .reg [⟨some 25, none, .mov (.t 5)⟩, ⟨some 26, none, .mov (.t 3)⟩, ⟨some 27, none, .lens (.t 26)⟩, ⟨some 28, none, .bin (.lss) (.t 25) (.t 27)⟩] [25, 26, 27]
@[simp] theorem ref17_parser_number_c11_eq {K : AK} {env : Env} {H : AHeap} : aw PP ref17_parser_number_c11 K env H = awOps PP [⟨some 25, none, .mov (.t 5)⟩, ⟨some 26, none, .mov (.t 3)⟩, ⟨some 27, none, .lens (.t 26)⟩, ⟨some 28, none, .bin (.lss) (.t 25) (.t 27)⟩] (regK K [25, 26, 27]) (panK K) env H := aw_reg _ _
def ref17_parser_number_c12 : AC := .cond (.t 28) .skip (.exit 0)
@[simp] theorem ref17_parser_number_c12_eq {K : AK} {env : Env} {H : AHeap} : aw PP ref17_parser_number_c12 K env H = condQ PP (Opd.ev env (.t 28)) .skip (.exit 0) K env H := aw_cond _ .skip (.exit 0)
def ref17_parser_number_c13 : AC := .seq ref17_parser_number_c11 ref17_parser_number_c12
@[simp] theorem ref17_parser_number_c13_eq {K : AK} {env : Env} {H : AHeap} : aw PP ref17_parser_number_c13 K env H = aw PP ref17_parser_number_c11 (seqK PP ref17_parser_number_c12 K) env H := aw_seq ref17_parser_number_c11 ref17_parser_number_c12
def ref17_parser_number_c14 : AC := .reg [⟨some 31, none, .mov (.t 4)⟩, ⟨some 32, none, .bin (.mul) (.c (.int (.i64) 10)) (.t 31)⟩, ⟨some 33, none, .mov (.t 3)⟩, ⟨some 34, none, .mov (.t 5)⟩, ⟨some 35, none, .ix (.t 33) (.t 34)⟩, ⟨some 36, none, .bin (.sub) (.t 35) (.c (.int (.u8) 48))⟩, ⟨some 37, none, .conv (.i64) (.t 36)⟩, ⟨some 38, none, .bin (.add) (.t 32) (.t 37)⟩, ⟨some 39, none, .mn (.t 38) (.c (.int (.i64) 1001))⟩, ⟨some 4, none, .mov (.t 39)⟩] [28, 31, 32, 33, 34, 35, 36, 37, 38, 39]
@[simp] theorem ref17_parser_number_c14_eq {K : AK} {env : Env} {H : AHeap} : aw PP ref17_parser_number_c14 K env H = awOps PP [⟨some 31, none, .mov (.t 4)⟩, ⟨some 32, none, .bin (.mul) (.c (.int (.i64) 10)) (.t 31)⟩, ⟨some 33, none, .mov (.t 3)⟩, ⟨some 34, none, .mov (.t 5)⟩, ⟨some 35, none, .ix (.t 33) (.t 34)⟩, ⟨some 36, none, .bin (.sub) (.t 35) (.c (.int (.u8) 48))⟩, ⟨some 37, none, .conv (.i64) (.t 36)⟩, ⟨some 38, none, .bin (.add) (.t 32) (.t 37)⟩, ⟨some 39, none, .mn (.t 38) (.c (.int (.i64) 1001))⟩, ⟨some 4, none, .mov (.t 39)⟩] (regK K [28, 31, 32, 33, 34, 35, 36, 37, 38, 39]) (panK K) env H := aw_reg _ _
def ref17_parser_number_c15 : AC := .block 1 ref17_parser_number_c14
@[simp] theorem ref17_parser_number_c15_eq {K : AK} {env : Env} {H : AHeap} : aw PP ref17_parser_number_c15 K env H = aw PP ref17_parser_number_c14 (blockK 1 K) env H := aw_block _ ref17_parser_number_c14
def ref17_parser_number_c16 : AC := .reg [⟨some 29, none, .mov (.t 5)⟩, ⟨some 30, none, .bin (.add) (.t 29) (.c (.int (.i64) 1))⟩, ⟨some 5, none, .mov (.t 30)⟩] [29, 30]
@[simp] theorem ref17_parser_number_c16_eq {K : AK} {env : Env} {H : AHeap} : aw PP ref17_parser_number_c16 K env H = awOps PP [⟨some 29, none, .mov (.t 5)⟩, ⟨some 30, none, .bin (.add) (.t 29) (.c (.int (.i64) 1))⟩, ⟨some 5, none, .mov (.t 30)⟩] (regK K [29, 30]) (panK K) env H := aw_reg _ _
def ref17_parser_number_c17 : AC := .seq ref17_parser_number_c15 ref17_parser_number_c16
@[simp] theorem ref17_parser_number_c17_eq {K : AK} {env : Env} {H : AHeap} : aw PP ref17_parser_number_c17 K env H = aw PP ref17_parser_number_c15 (seqK PP ref17_parser_number_c16 K) env H := aw_seq ref17_parser_number_c15 ref17_parser_number_c16
def ref17_parser_number_c18 : AC := .seq ref17_parser_number_c13 ref17_parser_number_c17
@[simp] theorem ref17_parser_number_c18_eq {K : AK} {env : Env} {H : AHeap} : aw PP ref17_parser_number_c18 K env H = aw PP ref17_parser_number_c13 (seqK PP ref17_parser_number_c17 K) env H := aw_seq ref17_parser_number_c13 ref17_parser_number_c17
def ref17_parser_number_c19 : AC := .loop ref17_parser_number_c18
def ref17_parser_number_c20 : AC := .block 0 ref17_parser_number_c19
@[simp] theorem ref17_parser_number_c20_eq {K : AK} {env : Env} {H : AHeap} : aw PP ref17_parser_number_c20 K env H = aw PP ref17_parser_number_c19 (blockK 0 K) env H := aw_block _ ref17_parser_number_c19
def ref17_parser_number_c21 : AC := .seq ref17_parser_number_c10 ref17_parser_number_c20
@[simp] theorem ref17_parser_number_c21_eq {K : AK} {env : Env} {H : AHeap} : aw PP ref17_parser_number_c21 K env H = aw PP ref17_parser_number_c10 (seqK PP ref17_parser_number_c20 K) env H := aw_seq ref17_parser_number_c10 ref17_parser_number_c20
def ref17_parser_number_c22 : AC := .reg [⟨some 40, none, .mov (.t 0)⟩, ⟨some 41, none, .call (.c (.fn (.func 25) [] [])) [.t 40]⟩] [0, 3, 5, 28, 40, 41]
@[simp] theorem ref17_parser_number_c22_eq {K : AK} {env : Env} {H : AHeap} : aw PP ref17_parser_number_c22 K env H = awOps PP [⟨some 40, none, .mov (.t 0)⟩, ⟨some 41, none, .call (.c (.fn (.func 25) [] [])) [.t 40]⟩] (regK K [0, 3, 5, 28, 40, 41]) (panK K) env H := aw_reg _ _
def ref17_parser_number_c23 : AC := .reg [⟨some 42, none, .mov (.t 4)⟩, ⟨some 2, none, .mov (.t 42)⟩] [4, 42]
@[simp] theorem ref17_parser_number_c23_eq {K : AK} {env : Env} {H : AHeap} : aw PP ref17_parser_number_c23 K env H = awOps PP [⟨some 42, none, .mov (.t 4)⟩, ⟨some 2, none, .mov (.t 42)⟩] (regK K [4, 42]) (panK K) env H := aw_reg _ _
def ref17_parser_number_c24 : AC := .seq ref17_parser_number_c23 .ret
@[simp] theorem ref17_parser_number_c24_eq {K : AK} {env : Env} {H : AHeap} : aw PP ref17_parser_number_c24 K env H = aw PP ref17_parser_number_c23 (seqK PP .ret K) env H := aw_seq ref17_parser_number_c23 .ret
def ref17_parser_number_c25 : AC := .seq ref17_parser_number_c22 ref17_parser_number_c24
@[simp] theorem ref17_parser_number_c25_eq {K : AK} {env : Env} {H : AHeap} : aw PP ref17_parser_number_c25 K env H = aw PP ref17_parser_number_c22 (seqK PP ref17_parser_number_c24 K) env H := aw_seq ref17_parser_number_c22 ref17_parser_number_c24
def ref17_parser_number_c26 : AC := .seq ref17_parser_number_c21 ref17_parser_number_c25
@[simp] theorem ref17_parser_number_c26_eq {K : AK} {env : Env} {H : AHeap} : aw PP ref17_parser_number_c26 K env H = aw PP ref17_parser_number_c21 (seqK PP ref17_parser_number_c25 K) env H := aw_seq ref17_parser_number_c21 ref17_parser_number_c25
def ref17_parser_number_c27 : AC := .seq ref17_parser_number_c9 ref17_parser_number_c26
@[simp] theorem ref17_parser_number_c27_eq {K : AK} {env : Env} {H : AHeap} : aw PP ref17_parser_number_c27 K env H = aw PP ref17_parser_number_c9 (seqK PP ref17_parser_number_c26 K) env H := aw_seq ref17_parser_number_c9 ref17_parser_number_c26
def ref17_parser_number_c28 : AC := .seq ref17_parser_number_c8 ref17_parser_number_c27
@[simp] theorem ref17_parser_number_c28_eq {K : AK} {env : Env} {H : AHeap} : aw PP ref17_parser_number_c28 K env H = aw PP ref17_parser_number_c8 (seqK PP ref17_parser_number_c27 K) env H := aw_seq ref17_parser_number_c8 ref17_parser_number_c27
def ref17_parser_number_c29 : AC := .seq ref17_parser_number_c1 ref17_parser_number_c28
@[simp] theorem ref17_parser_number_c29_eq {K : AK} {env : Env} {H : AHeap} : aw PP ref17_parser_number_c29 K env H = aw PP ref17_parser_number_c1 (seqK PP ref17_parser_number_c28 K) env H := aw_seq ref17_parser_number_c1 ref17_parser_number_c28
def ref17_parser_number_c30 : AC := .seq ref17_parser_number_c0 ref17_parser_number_c29
@[simp] theorem ref17_parser_number_c30_eq {K : AK} {env : Env} {H : AHeap} : aw PP ref17_parser_number_c30 K env H = aw PP ref17_parser_number_c0 (seqK PP ref17_parser_number_c29 K) env H := aw_seq ref17_parser_number_c0 ref17_parser_number_c29
def ref17_parser_number_ac : AC := ref17_parser_number_c30
@[simp] theorem ref17_parser_number_ac_eq {K : AK} {env : Env} {H : AHeap} : aw PP ref17_parser_number_ac K env H = aw PP ref17_parser_number_c30 K env H := Eq.trans rfl rfl
def ref17_parser_number_rs : List ARV := [.tmp 2]
abbrev ref17_parser_number_id : Nat := 77
theorem ref17_parser_number_comp : compF PP ref17_parser_number_kl ref17_parser_number_ow 1 Try.f77 = some (ref17_parser_number_ac, ref17_parser_number_rs) := by kernel_rfl
theorem ref17_parser_number_enter {args : List AV} {H : AHeap} {post : ARes → AHeap → Prop} (ha : args.length = 1) (h : aw PP ref17_parser_number_ac (retK ref17_parser_number_rs post) (argEnv 0 args) H) : ACalls PP ref17_parser_number_id args H post := .enterF Try.func77 PP_mix ref17_parser_number_comp ha h

/-! (*emendate.grammarparser.reader).item -/
def grammarparser_reader_item_kl : Nat → List Nat
  | 1 => [5, 6]
  | 2 => [4]
  | 3 => [7, 8]
  | 4 => [0, 3, 10, 15]
  | 5 => [12]
  | 6 => [9, 11]
  | 7 => [11, 14]
  | 8 => [9, 13]
  | 9 => [9, 13, 16]
  | 10 => [15]
  | 11 => [17, 18]
  | 12 => [4, 19, 20, 21, 22]
  | _ => []
def grammarparser_reader_item_ow : Nat → Nat → Bool := fun _ _ => false
def grammarparser_reader_item_c0 : AC := .reg [⟨some 2, none, .alloc (.struct [.int (.i64) 0, .str [], .nils]) 47⟩] []
@[simp] theorem grammarparser_reader_item_c0_eq {K : AK} {env : Env} {H : AHeap} : aw PP grammarparser_reader_item_c0 K env H = awOps PP [⟨some 2, none, .alloc (.struct [.int (.i64) 0, .str [], .nils]) 47⟩] (regK K []) (panK K) env H := aw_reg _ _
def grammarparser_reader_item_c1 : AC := .reg [⟨some 5, none, .mov (.t 0)⟩, ⟨some 6, none, .call (.c (.fn (.func 85) [] [])) [.t 5]⟩, ⟨some 3, none, .alloc (.struct [.int (.i64) 0, .str [], .nils]) 47⟩, ⟨none, none, .st 3 (.t 3) (.t 6)⟩] [5, 6]
@[simp] theorem grammarparser_reader_item_c1_eq {K : AK} {env : Env} {H : AHeap} : aw PP grammarparser_reader_item_c1 K env H = awOps PP [⟨some 5, none, .mov (.t 0)⟩, ⟨some 6, none, .call (.c (.fn (.func 85) [] [])) [.t 5]⟩, ⟨some 3, none, .alloc (.struct [.int (.i64) 0, .str [], .nils]) 47⟩, ⟨none, none, .st 3 (.t 3) (.t 6)⟩] (regK K [5, 6]) (panK K) env H := aw_reg _ _
def grammarparser_reader_item_c2 : AC := .reg [⟨some 4, none, .mov (.c (.int (.i64) 0))⟩] [4]
@[simp] theorem grammarparser_reader_item_c2_eq {K : AK} {env : Env} {H : AHeap} : aw PP grammarparser_reader_item_c2 K env H = awOps PP [⟨some 4, none, .mov (.c (.int (.i64) 0))⟩] (regK K [4]) (panK K) env H := aw_reg _ _
def grammarparser_reader_item_c3 : AC := .reg [⟨some 7, none, .mov (.t 0)⟩, ⟨some 8, none, .call (.c (.fn (.func 53) [] [])) [.t 7]⟩, ⟨some 9, none, .fld 1 1 1 false (.t 8)⟩] [7, 8]
@[simp] theorem grammarparser_reader_item_c3_eq {K : AK} {env : Env} {H : AHeap} : aw PP grammarparser_reader_item_c3 K env H = awOps PP [⟨some 7, none, .mov (.t 0)⟩, ⟨some 8, none, .call (.c (.fn (.func 53) [] [])) [.t 7]⟩, ⟨some 9, none, .fld 1 1 1 false (.t 8)⟩] (regK K [7, 8]) (panK K) env H := aw_reg _ _
def grammarparser_reader_item_c4 : AC := .reg [⟨some 12, none, .bin (.eql) (.t 9) (.c (.str [42]))⟩, ⟨some 11, none, .mov (.t 12)⟩] [12]
@[simp] theorem grammarparser_reader_item_c4_eq {K : AK} {env : Env} {H : AHeap} : aw PP grammarparser_reader_item_c4 K env H = awOps PP [⟨some 12, none, .bin (.eql) (.t 9) (.c (.str [42]))⟩, ⟨some 11, none, .mov (.t 12)⟩] (regK K [12]) (panK K) env H := aw_reg _ _
def grammarparser_reader_item_c5 : AC := .reg [⟨some 4, none, .mov (.c (.int (.i64) 5))⟩] [9, 11]
@[simp] theorem grammarparser_reader_item_c5_eq {K : AK} {env : Env} {H : AHeap} : aw PP grammarparser_reader_item_c5 K env H = awOps PP [⟨some 4, none, .mov (.c (.int (.i64) 5))⟩] (regK K [9, 11]) (panK K) env H := aw_reg _ _
def grammarparser_reader_item_c6 : AC := .reg [⟨some 14, none, .bin (.eql) (.t 9) (.c (.str [43]))⟩, ⟨some 13, none, .mov (.t 14)⟩] [11, 14]
@[simp] theorem grammarparser_reader_item_c6_eq {K : AK} {env : Env} {H : AHeap} : aw PP grammarparser_reader_item_c6 K env H = awOps PP [⟨some 14, none, .bin (.eql) (.t 9) (.c (.str [43]))⟩, ⟨some 13, none, .mov (.t 14)⟩] (regK K [11, 14]) (panK K) env H := aw_reg _ _
def grammarparser_reader_item_c7 : AC := .reg [⟨some 4, none, .mov (.c (.int (.i64) 6))⟩] [9, 13]
@[simp] theorem grammarparser_reader_item_c7_eq {K : AK} {env : Env} {H : AHeap} : aw PP grammarparser_reader_item_c7 K env H = awOps PP [⟨some 4, none, .mov (.c (.int (.i64) 6))⟩] (regK K [9, 13]) (panK K) env H := aw_reg _ _
def grammarparser_reader_item_c8 : AC := .reg [⟨some 16, none, .bin (.eql) (.t 9) (.c (.str [63]))⟩, ⟨some 15, none, .mov (.t 16)⟩] [9, 13, 16]
@[simp] theorem grammarparser_reader_item_c8_eq {K : AK} {env : Env} {H : AHeap} : aw PP grammarparser_reader_item_c8 K env H = awOps PP [⟨some 16, none, .bin (.eql) (.t 9) (.c (.str [63]))⟩, ⟨some 15, none, .mov (.t 16)⟩] (regK K [9, 13, 16]) (panK K) env H := aw_reg _ _
def grammarparser_reader_item_c9 : AC := .reg [⟨some 4, none, .mov (.c (.int (.i64) 4))⟩] [15]
@[simp] theorem grammarparser_reader_item_c9_eq {K : AK} {env : Env} {H : AHeap} : aw PP grammarparser_reader_item_c9 K env H = awOps PP [⟨some 4, none, .mov (.c (.int (.i64) 4))⟩] (regK K [15]) (panK K) env H := aw_reg _ _
def grammarparser_reader_item_c10 : AC := .reg [⟨some 10, none, .ld true 3 (.t 3)⟩, ⟨none, none, .st 3 (.t 2) (.t 10)⟩] [0, 3, 10, 15]
@[simp] theorem grammarparser_reader_item_c10_eq {K : AK} {env : Env} {H : AHeap} : aw PP grammarparser_reader_item_c10 K env H = awOps PP [⟨some 10, none, .ld true 3 (.t 3)⟩, ⟨none, none, .st 3 (.t 2) (.t 10)⟩] (regK K [0, 3, 10, 15]) (panK K) env H := aw_reg _ _
def grammarparser_reader_item_c11 : AC := .seq grammarparser_reader_item_c10 .ret
@[simp] theorem grammarparser_reader_item_c11_eq {K : AK} {env : Env} {H : AHeap} : aw PP grammarparser_reader_item_c11 K env H = aw PP grammarparser_reader_item_c10 (seqK PP .ret K) env H := aw_seq grammarparser_reader_item_c10 .ret
def grammarparser_reader_item_c12 : AC := .cond (.t 15) grammarparser_reader_item_c9 grammarparser_reader_item_c11
@[simp] theorem grammarparser_reader_item_c12_eq {K : AK} {env : Env} {H : AHeap} : aw PP grammarparser_reader_item_c12 K env H = condQ PP (Opd.ev env (.t 15)) grammarparser_reader_item_c9 grammarparser_reader_item_c11 K env H := aw_cond _ grammarparser_reader_item_c9 grammarparser_reader_item_c11
def grammarparser_reader_item_c13 : AC := .seq grammarparser_reader_item_c8 grammarparser_reader_item_c12
@[simp] theorem grammarparser_reader_item_c13_eq {K : AK} {env : Env} {H : AHeap} : aw PP grammarparser_reader_item_c13 K env H = aw PP grammarparser_reader_item_c8 (seqK PP grammarparser_reader_item_c12 K) env H := aw_seq grammarparser_reader_item_c8 grammarparser_reader_item_c12
def grammarparser_reader_item_c14 : AC := .cond (.t 13) grammarparser_reader_item_c7 grammarparser_reader_item_c13
@[simp] theorem grammarparser_reader_item_c14_eq {K : AK} {env : Env} {H : AHeap} : aw PP grammarparser_reader_item_c14 K env H = condQ PP (Opd.ev env (.t 13)) grammarparser_reader_item_c7 grammarparser_reader_item_c13 K env H := aw_cond _ grammarparser_reader_item_c7 grammarparser_reader_item_c13
def grammarparser_reader_item_c15 : AC := .seq grammarparser_reader_item_c6 grammarparser_reader_item_c14
@[simp] theorem grammarparser_reader_item_c15_eq {K : AK} {env : Env} {H : AHeap} : aw PP grammarparser_reader_item_c15 K env H = aw PP grammarparser_reader_item_c6 (seqK PP grammarparser_reader_item_c14 K) env H := aw_seq grammarparser_reader_item_c6 grammarparser_reader_item_c14
def grammarparser_reader_item_c16 : AC := .cond (.t 11) grammarparser_reader_item_c5 grammarparser_reader_item_c15
@[simp] theorem grammarparser_reader_item_c16_eq {K : AK} {env : Env} {H : AHeap} : aw PP grammarparser_reader_item_c16 K env H = condQ PP (Opd.ev env (.t 11)) grammarparser_reader_item_c5 grammarparser_reader_item_c15 K env H := aw_cond _ grammarparser_reader_item_c5 grammarparser_reader_item_c15
def grammarparser_reader_item_c17 : AC := .seq grammarparser_reader_item_c4 grammarparser_reader_item_c16
@[simp] theorem grammarparser_reader_item_c17_eq {K : AK} {env : Env} {H : AHeap} : aw PP grammarparser_reader_item_c17 K env H = aw PP grammarparser_reader_item_c4 (seqK PP grammarparser_reader_item_c16 K) env H := aw_seq grammarparser_reader_item_c4 grammarparser_reader_item_c16
def grammarparser_reader_item_c18 : AC := .block 2 grammarparser_reader_item_c17
@[simp] theorem grammarparser_reader_item_c18_eq {K : AK} {env : Env} {H : AHeap} : aw PP grammarparser_reader_item_c18 K env H = aw PP grammarparser_reader_item_c17 (blockK 2 K) env H := aw_block _ grammarparser_reader_item_c17
def grammarparser_reader_item_c19 : AC := .seq grammarparser_reader_item_c3 grammarparser_reader_item_c18
@[simp] theorem grammarparser_reader_item_c19_eq {K : AK} {env : Env} {H : AHeap} : aw PP grammarparser_reader_item_c19 K env H = aw PP grammarparser_reader_item_c3 (seqK PP grammarparser_reader_item_c18 K) env H := aw_seq grammarparser_reader_item_c3 grammarparser_reader_item_c18
def grammarparser_reader_item_c20 : AC := .reg [⟨some 17, none, .mov (.t 0)⟩, ⟨some 18, none, .call (.c (.fn (.func 55) [] [])) [.t 17]⟩] [17, 18]
@[simp] theorem grammarparser_reader_item_c20_eq {K : AK} {env : Env} {H : AHeap} : aw PP grammarparser_reader_item_c20 K env H = awOps PP [⟨some 17, none, .mov (.t 0)⟩, ⟨some 18, none, .call (.c (.fn (.func 55) [] [])) [.t 17]⟩] (regK K [17, 18]) (panK K) env H := aw_reg _ _
def grammarparser_reader_item_c21 : AC := .reg [⟨some 19, none, .mov (.t 4)⟩, ⟨some 20, none, .ld true 3 (.t 3)⟩, ⟨some 21, none, .bsl false 47 3 1 (.struct [.int (.i64) 0, .str [], .nils]) [(0, .t 20)]⟩, ⟨some 22, none, .build [.int (.i64) 0, .str [], .nils] [(0, .t 19), (2, .t 21)]⟩, ⟨none, none, .st 3 (.t 3) (.t 22)⟩] [4, 19, 20, 21, 22]
@[simp] theorem grammarparser_reader_item_c21_eq {K : AK} {env : Env} {H : AHeap} : aw PP grammarparser_reader_item_c21 K env H = awOps PP [⟨some 19, none, .mov (.t 4)⟩, ⟨some 20, none, .ld true 3 (.t 3)⟩, ⟨some 21, none, .bsl false 47 3 1 (.struct [.int (.i64) 0, .str [], .nils]) [(0, .t 20)]⟩, ⟨some 22, none, .build [.int (.i64) 0, .str [], .nils] [(0, .t 19), (2, .t 21)]⟩, ⟨none, none, .st 3 (.t 3) (.t 22)⟩] (regK K [4, 19, 20, 21, 22]) (panK K) env H := aw_reg _ _
def grammarparser_reader_item_c22 : AC := .seq grammarparser_reader_item_c20 grammarparser_reader_item_c21
@[simp] theorem grammarparser_reader_item_c22_eq {K : AK} {env : Env} {H : AHeap} : aw PP grammarparser_reader_item_c22 K env H = aw PP grammarparser_reader_item_c20 (seqK PP grammarparser_reader_item_c21 K) env H := aw_seq grammarparser_reader_item_c20 grammarparser_reader_item_c21
def grammarparser_reader_item_c23 : AC := .seq grammarparser_reader_item_c19 grammarparser_reader_item_c22
@[simp] theorem grammarparser_reader_item_c23_eq {K : AK} {env : Env} {H : AHeap} : aw PP grammarparser_reader_item_c23 K env H = aw PP grammarparser_reader_item_c19 (seqK PP grammarparser_reader_item_c22 K) env H := aw_seq grammarparser_reader_item_c19 grammarparser_reader_item_c22
def grammarparser_reader_item_c24 : AC := .seq grammarparser_reader_item_c2 grammarparser_reader_item_c23
@[simp] theorem grammarparser_reader_item_c24_eq {K : AK} {env : Env} {H : AHeap} : aw PP grammarparser_reader_item_c24 K env H = aw PP grammarparser_reader_item_c2 (seqK PP grammarparser_reader_item_c23 K) env H := aw_seq grammarparser_reader_item_c2 grammarparser_reader_item_c23
def grammarparser_reader_item_c25 : AC := .block 1 grammarparser_reader_item_c24
@[simp] theorem grammarparser_reader_item_c25_eq {K : AK} {env : Env} {H : AHeap} : aw PP grammarparser_reader_item_c25 K env H = aw PP grammarparser_reader_item_c24 (blockK 1 K) env H := aw_block _ grammarparser_reader_item_c24
def grammarparser_reader_item_c26 : AC := .loop grammarparser_reader_item_c25
def grammarparser_reader_item_c27 : AC := .block 0 grammarparser_reader_item_c26
@[simp] theorem grammarparser_reader_item_c27_eq {K : AK} {env : Env} {H : AHeap} : aw PP grammarparser_reader_item_c27 K env H = aw PP grammarparser_reader_item_c26 (blockK 0 K) env H := aw_block _ grammarparser_reader_item_c26
def grammarparser_reader_item_c28 : AC := .seq grammarparser_reader_item_c1 grammarparser_reader_item_c27
@[simp] theorem grammarparser_reader_item_c28_eq {K : AK} {env : Env} {H : AHeap} : aw PP grammarparser_reader_item_c28 K env H = aw PP grammarparser_reader_item_c1 (seqK PP grammarparser_reader_item_c27 K) env H := aw_seq grammarparser_reader_item_c1 grammarparser_reader_item_c27
def grammarparser_reader_item_c29 : AC := .seq grammarparser_reader_item_c0 grammarparser_reader_item_c28
@[simp] theorem grammarparser_reader_item_c29_eq {K : AK} {env : Env} {H : AHeap} : aw PP grammarparser_reader_item_c29 K env H = aw PP grammarparser_reader_item_c0 (seqK PP grammarparser_reader_item_c28 K) env H := aw_seq grammarparser_reader_item_c0 grammarparser_reader_item_c28
def grammarparser_reader_item_ac : AC := grammarparser_reader_item_c29
@[simp] theorem grammarparser_reader_item_ac_eq {K : AK} {env : Env} {H : AHeap} : aw PP grammarparser_reader_item_ac K env H = aw PP grammarparser_reader_item_c29 K env H := Eq.trans rfl rfl
def grammarparser_reader_item_rs : List ARV := [.cell 2 true 3]
abbrev grammarparser_reader_item_id : Nat := 79
theorem grammarparser_reader_item_comp : compF PP grammarparser_reader_item_kl grammarparser_reader_item_ow 1 Try.f79 = some (grammarparser_reader_item_ac, grammarparser_reader_item_rs) := by kernel_rfl
theorem grammarparser_reader_item_enter {args : List AV} {H : AHeap} {post : ARes → AHeap → Prop} (ha : args.length = 1) (h : aw PP grammarparser_reader_item_ac (retK grammarparser_reader_item_rs post) (argEnv 0 args) H) : ACalls PP grammarparser_reader_item_id args H post := .enterF Try.func79 PP_mix grammarparser_reader_item_comp ha h

/-! slices.IndexFunc[[]emendate.api.GAlternative,emendate.api.GAlternative] -/
def slices_IndexFunc_GAlternative_kl : Nat → List Nat
  | 0 => [4]
  | 1 => [6]
  | 3 => [9, 10]
  | 4 => [11, 12, 13, 14, 15]
  | 5 => [0, 1, 5, 7, 8, 16, 17]
  | 6 => [5, 16, 18]
  | 7 => [0, 1, 7, 8, 9]
  | _ => []
def slices_IndexFunc_GAlternative_ow : Nat → Nat → Bool := fun _ _ => false
def slices_IndexFunc_GAlternative_c0 : AC := .reg [⟨some 4, none, .mov (.c (.int (.i64) 0))⟩] [4]
@[simp] theorem slices_IndexFunc_GAlternative_c0_eq {K : AK} {env : Env} {H : AHeap} : aw PP slices_IndexFunc_GAlternative_c0 K env H = awOps PP [⟨some 4, none, .mov (.c (.int (.i64) 0))⟩] (regK K [4]) (panK K) env H := aw_reg _ _
def slices_IndexFunc_GAlternative_c1 : AC := .reg [⟨some 6, none, .mov (.t 0)⟩, ⟨some 7, none, .lenl (.t 6)⟩, ⟨some 8, none, .mov (.c (.int (.i64) 0))⟩] [6]
@[simp] theorem slices_IndexFunc_GAlternative_c1_eq {K : AK} {env : Env} {H : AHeap} : aw PP slices_IndexFunc_GAlternative_c1 K env H = awOps PP [⟨some 6, none, .mov (.t 0)⟩, ⟨some 7, none, .lenl (.t 6)⟩, ⟨some 8, none, .mov (.c (.int (.i64) 0))⟩] (regK K [6]) (panK K) env H := aw_reg _ _
def slices_IndexFunc_GAlternative_c2 : AC := .reg [⟨some 9, none, .bin (.lss) (.t 8) (.t 7)⟩] []
@[simp] theorem slices_IndexFunc_GAlternative_c2_eq {K : AK} {env : Env} {H : AHeap} : aw PP slices_IndexFunc_GAlternative_c2 K env H = awOps PP [⟨some 9, none, .bin (.lss) (.t 8) (.t 7)⟩] (regK K []) (panK K) env H := aw_reg _ _
def slices_IndexFunc_GAlternative_c3 : AC := .cond (.t 9) .skip (.exit 0)
@[simp] theorem slices_IndexFunc_GAlternative_c3_eq {K : AK} {env : Env} {H : AHeap} : aw PP slices_IndexFunc_GAlternative_c3 K env H = condQ PP (Opd.ev env (.t 9)) .skip (.exit 0) K env H := aw_cond _ .skip (.exit 0)
def slices_IndexFunc_GAlternative_c4 : AC := .reg [⟨some 10, none, .mov (.t 8)⟩, ⟨some 5, none, .mov (.t 10)⟩] [9, 10]
@[simp] theorem slices_IndexFunc_GAlternative_c4_eq {K : AK} {env : Env} {H : AHeap} : aw PP slices_IndexFunc_GAlternative_c4 K env H = awOps PP [⟨some 10, none, .mov (.t 8)⟩, ⟨some 5, none, .mov (.t 10)⟩] (regK K [9, 10]) (panK K) env H := aw_reg _ _
def slices_IndexFunc_GAlternative_c5 : AC := .reg [⟨some 11, none, .mov (.t 1)⟩, ⟨some 12, none, .mov (.t 0)⟩, ⟨some 13, none, .mov (.t 5)⟩, ⟨some 14, none, .ixa 4 (.t 12) (.t 13)⟩, ⟨some 15, none, .ld true 4 (.t 14)⟩, ⟨some 16, none, .call (.t 11) [.t 15]⟩] [11, 12, 13, 14, 15]
@[simp] theorem slices_IndexFunc_GAlternative_c5_eq {K : AK} {env : Env} {H : AHeap} : aw PP slices_IndexFunc_GAlternative_c5 K env H = awOps PP [⟨some 11, none, .mov (.t 1)⟩, ⟨some 12, none, .mov (.t 0)⟩, ⟨some 13, none, .mov (.t 5)⟩, ⟨some 14, none, .ixa 4 (.t 12) (.t 13)⟩, ⟨some 15, none, .ld true 4 (.t 14)⟩, ⟨some 16, none, .call (.t 11) [.t 15]⟩] (regK K [11, 12, 13, 14, 15]) (panK K) env H := aw_reg _ _
def slices_IndexFunc_GAlternative_c6 : AC := .reg [⟨some 17, none, .mov (.t 5)⟩, ⟨some 4, none, .mov (.t 17)⟩] [0, 1, 5, 7, 8, 16, 17]
@[simp] theorem slices_IndexFunc_GAlternative_c6_eq {K : AK} {env : Env} {H : AHeap} : aw PP slices_IndexFunc_GAlternative_c6 K env H = awOps PP [⟨some 17, none, .mov (.t 5)⟩, ⟨some 4, none, .mov (.t 17)⟩] (regK K [0, 1, 5, 7, 8, 16, 17]) (panK K) env H := aw_reg _ _
def slices_IndexFunc_GAlternative_c7 : AC := .seq slices_IndexFunc_GAlternative_c6 .ret
@[simp] theorem slices_IndexFunc_GAlternative_c7_eq {K : AK} {env : Env} {H : AHeap} : aw PP slices_IndexFunc_GAlternative_c7 K env H = aw PP slices_IndexFunc_GAlternative_c6 (seqK PP .ret K) env H := aw_seq slices_IndexFunc_GAlternative_c6 .ret
def slices_IndexFunc_GAlternative_c8 : AC := .cond (.t 16) slices_IndexFunc_GAlternative_c7 .skip
@[simp] theorem slices_IndexFunc_GAlternative_c8_eq {K : AK} {env : Env} {H : AHeap} : aw PP slices_IndexFunc_GAlternative_c8 K env H = condQ PP (Opd.ev env (.t 16)) slices_IndexFunc_GAlternative_c7 .skip K env H := aw_cond _ slices_IndexFunc_GAlternative_c7 .skip
def slices_IndexFunc_GAlternative_c9 : AC := .seq slices_IndexFunc_GAlternative_c5 slices_IndexFunc_GAlternative_c8
@[simp] theorem slices_IndexFunc_GAlternative_c9_eq {K : AK} {env : Env} {H : AHeap} : aw PP slices_IndexFunc_GAlternative_c9 K env H = aw PP slices_IndexFunc_GAlternative_c5 (seqK PP slices_IndexFunc_GAlternative_c8 K) env H := aw_seq slices_IndexFunc_GAlternative_c5 slices_IndexFunc_GAlternative_c8
def slices_IndexFunc_GAlternative_c10 : AC := .seq slices_IndexFunc_GAlternative_c4 slices_IndexFunc_GAlternative_c9
@[simp] theorem slices_IndexFunc_GAlternative_c10_eq {K : AK} {env : Env} {H : AHeap} : aw PP slices_IndexFunc_GAlternative_c10 K env H = aw PP slices_IndexFunc_GAlternative_c4 (seqK PP slices_IndexFunc_GAlternative_c9 K) env H := aw_seq slices_IndexFunc_GAlternative_c4 slices_IndexFunc_GAlternative_c9
def slices_IndexFunc_GAlternative_c11 : AC := .block 1 slices_IndexFunc_GAlternative_c10
@[simp] theorem slices_IndexFunc_GAlternative_c11_eq {K : AK} {env : Env} {H : AHeap} : aw PP slices_IndexFunc_GAlternative_c11 K env H = aw PP slices_IndexFunc_GAlternative_c10 (blockK 1 K) env H := aw_block _ slices_IndexFunc_GAlternative_c10
def slices_IndexFunc_GAlternative_c12 : AC := .reg [⟨some 18, none, .bin (.add) (.t 8) (.c (.int (.i64) 1))⟩, ⟨some 8, none, .mov (.t 18)⟩] [5, 16, 18]
@[simp] theorem slices_IndexFunc_GAlternative_c12_eq {K : AK} {env : Env} {H : AHeap} : aw PP slices_IndexFunc_GAlternative_c12 K env H = awOps PP [⟨some 18, none, .bin (.add) (.t 8) (.c (.int (.i64) 1))⟩, ⟨some 8, none, .mov (.t 18)⟩] (regK K [5, 16, 18]) (panK K) env H := aw_reg _ _
def slices_IndexFunc_GAlternative_c13 : AC := .seq slices_IndexFunc_GAlternative_c11 slices_IndexFunc_GAlternative_c12
@[simp] theorem slices_IndexFunc_GAlternative_c13_eq {K : AK} {env : Env} {H : AHeap} : aw PP slices_IndexFunc_GAlternative_c13 K env H = aw PP slices_IndexFunc_GAlternative_c11 (seqK PP slices_IndexFunc_GAlternative_c12 K) env H := aw_seq slices_IndexFunc_GAlternative_c11 slices_IndexFunc_GAlternative_c12
def slices_IndexFunc_GAlternative_c14 : AC := .seq slices_IndexFunc_GAlternative_c3 slices_IndexFunc_GAlternative_c13
@[simp] theorem slices_IndexFunc_GAlternative_c14_eq {K : AK} {env : Env} {H : AHeap} : aw PP slices_IndexFunc_GAlternative_c14 K env H = aw PP slices_IndexFunc_GAlternative_c3 (seqK PP slices_IndexFunc_GAlternative_c13 K) env H := aw_seq slices_IndexFunc_GAlternative_c3 slices_IndexFunc_GAlternative_c13
def slices_IndexFunc_GAlternative_c15 : AC := .seq slices_IndexFunc_GAlternative_c2 slices_IndexFunc_GAlternative_c14
@[simp] theorem slices_IndexFunc_GAlternative_c15_eq {K : AK} {env : Env} {H : AHeap} : aw PP slices_IndexFunc_GAlternative_c15 K env H = aw PP slices_IndexFunc_GAlternative_c2 (seqK PP slices_IndexFunc_GAlternative_c14 K) env H := aw_seq slices_IndexFunc_GAlternative_c2 slices_IndexFunc_GAlternative_c14
def slices_IndexFunc_GAlternative_c16 : AC := .loop slices_IndexFunc_GAlternative_c15
def slices_IndexFunc_GAlternative_c17 : AC := .block 0 slices_IndexFunc_GAlternative_c16
@[simp] theorem slices_IndexFunc_GAlternative_c17_eq {K : AK} {env : Env} {H : AHeap} : aw PP slices_IndexFunc_GAlternative_c17 K env H = aw PP slices_IndexFunc_GAlternative_c16 (blockK 0 K) env H := aw_block _ slices_IndexFunc_GAlternative_c16
def slices_IndexFunc_GAlternative_c18 : AC := .seq slices_IndexFunc_GAlternative_c1 slices_IndexFunc_GAlternative_c17
@[simp] theorem slices_IndexFunc_GAlternative_c18_eq {K : AK} {env : Env} {H : AHeap} : aw PP slices_IndexFunc_GAlternative_c18 K env H = aw PP slices_IndexFunc_GAlternative_c1 (seqK PP slices_IndexFunc_GAlternative_c17 K) env H := aw_seq slices_IndexFunc_GAlternative_c1 slices_IndexFunc_GAlternative_c17
def slices_IndexFunc_GAlternative_c19 : AC := .reg [⟨some 4, none, .mov (.c (.int (.i64) (-1)))⟩] [0, 1, 7, 8, 9]
@[simp] theorem slices_IndexFunc_GAlternative_c19_eq {K : AK} {env : Env} {H : AHeap} : aw PP slices_IndexFunc_GAlternative_c19 K env H = awOps PP [⟨some 4, none, .mov (.c (.int (.i64) (-1)))⟩] (regK K [0, 1, 7, 8, 9]) (panK K) env H := aw_reg _ _
def slices_IndexFunc_GAlternative_c20 : AC := .seq slices_IndexFunc_GAlternative_c19 .ret
@[simp] theorem slices_IndexFunc_GAlternative_c20_eq {K : AK} {env : Env} {H : AHeap} : aw PP slices_IndexFunc_GAlternative_c20 K env H = aw PP slices_IndexFunc_GAlternative_c19 (seqK PP .ret K) env H := aw_seq slices_IndexFunc_GAlternative_c19 .ret
def slices_IndexFunc_GAlternative_c21 : AC := .seq slices_IndexFunc_GAlternative_c18 slices_IndexFunc_GAlternative_c20
@[simp] theorem slices_IndexFunc_GAlternative_c21_eq {K : AK} {env : Env} {H : AHeap} : aw PP slices_IndexFunc_GAlternative_c21 K env H = aw PP slices_IndexFunc_GAlternative_c18 (seqK PP slices_IndexFunc_GAlternative_c20 K) env H := aw_seq slices_IndexFunc_GAlternative_c18 slices_IndexFunc_GAlternative_c20
def slices_IndexFunc_GAlternative_c22 : AC := .seq slices_IndexFunc_GAlternative_c0 slices_IndexFunc_GAlternative_c21
@[simp] theorem slices_IndexFunc_GAlternative_c22_eq {K : AK} {env : Env} {H : AHeap} : aw PP slices_IndexFunc_GAlternative_c22 K env H = aw PP slices_IndexFunc_GAlternative_c0 (seqK PP slices_IndexFunc_GAlternative_c21 K) env H := aw_seq slices_IndexFunc_GAlternative_c0 slices_IndexFunc_GAlternative_c21
def slices_IndexFunc_GAlternative_ac : AC := slices_IndexFunc_GAlternative_c22
@[simp] theorem slices_IndexFunc_GAlternative_ac_eq {K : AK} {env : Env} {H : AHeap} : aw PP slices_IndexFunc_GAlternative_ac K env H = aw PP slices_IndexFunc_GAlternative_c22 K env H := Eq.trans rfl rfl
def slices_IndexFunc_GAlternative_rs : List ARV := [.tmp 4]
abbrev slices_IndexFunc_GAlternative_id : Nat := 80
theorem slices_IndexFunc_GAlternative_comp : compF PP slices_IndexFunc_GAlternative_kl slices_IndexFunc_GAlternative_ow 2 Try.f80 = some (slices_IndexFunc_GAlternative_ac, slices_IndexFunc_GAlternative_rs) := by kernel_rfl
theorem slices_IndexFunc_GAlternative_enter {args : List AV} {H : AHeap} {post : ARes → AHeap → Prop} (ha : args.length = 2) (h : aw PP slices_IndexFunc_GAlternative_ac (retK slices_IndexFunc_GAlternative_rs post) (argEnv 0 args) H) : ACalls PP slices_IndexFunc_GAlternative_id args H post := .enterF Try.func80 PP_mix slices_IndexFunc_GAlternative_comp ha h

/-! slices.ContainsFunc[[]emendate.api.GExpr,emendate.api.GExpr] -/
def slices_ContainsFunc_GExpr_kl : Nat → List Nat
  | 0 => [4]
  | 1 => [0, 1, 5, 6, 7, 8]
  | _ => []
def slices_ContainsFunc_GExpr_ow : Nat → Nat → Bool := fun _ _ => false
def slices_ContainsFunc_GExpr_c0 : AC := .reg [⟨some 4, none, .mov (.c (.bool false))⟩] [4]
@[simp] theorem slices_ContainsFunc_GExpr_c0_eq {K : AK} {env : Env} {H : AHeap} : aw PP slices_ContainsFunc_GExpr_c0 K env H = awOps PP [⟨some 4, none, .mov (.c (.bool false))⟩] (regK K [4]) (panK K) env H := aw_reg _ _
def slices_ContainsFunc_GExpr_c1 : AC := .reg [⟨some 5, none, .mov (.t 0)⟩, ⟨some 6, none, .mov (.t 1)⟩, ⟨some 7, none, .call (.c (.fn (.func 86) [] [])) [.t 5, .t 6]⟩, ⟨some 8, none, .bin (.geq) (.t 7) (.c (.int (.i64) 0))⟩, ⟨some 4, none, .mov (.t 8)⟩] [0, 1, 5, 6, 7, 8]
@[simp] theorem slices_ContainsFunc_GExpr_c1_eq {K : AK} {env : Env} {H : AHeap} : aw PP slices_ContainsFunc_GExpr_c1 K env H = awOps PP [⟨some 5, none, .mov (.t 0)⟩, ⟨some 6, none, .mov (.t 1)⟩, ⟨some 7, none, .call (.c (.fn (.func 86) [] [])) [.t 5, .t 6]⟩, ⟨some 8, none, .bin (.geq) (.t 7) (.c (.int (.i64) 0))⟩, ⟨some 4, none, .mov (.t 8)⟩] (regK K [0, 1, 5, 6, 7, 8]) (panK K) env H := aw_reg _ _
def slices_ContainsFunc_GExpr_c2 : AC := .seq slices_ContainsFunc_GExpr_c1 .ret
@[simp] theorem slices_ContainsFunc_GExpr_c2_eq {K : AK} {env : Env} {H : AHeap} : aw PP slices_ContainsFunc_GExpr_c2 K env H = aw PP slices_ContainsFunc_GExpr_c1 (seqK PP .ret K) env H := aw_seq slices_ContainsFunc_GExpr_c1 .ret
def slices_ContainsFunc_GExpr_c3 : AC := .seq slices_ContainsFunc_GExpr_c0 slices_ContainsFunc_GExpr_c2
@[simp] theorem slices_ContainsFunc_GExpr_c3_eq {K : AK} {env : Env} {H : AHeap} : aw PP slices_ContainsFunc_GExpr_c3 K env H = aw PP slices_ContainsFunc_GExpr_c0 (seqK PP slices_ContainsFunc_GExpr_c2 K) env H := aw_seq slices_ContainsFunc_GExpr_c0 slices_ContainsFunc_GExpr_c2
def slices_ContainsFunc_GExpr_ac : AC := slices_ContainsFunc_GExpr_c3
@[simp] theorem slices_ContainsFunc_GExpr_ac_eq {K : AK} {env : Env} {H : AHeap} : aw PP slices_ContainsFunc_GExpr_ac K env H = aw PP slices_ContainsFunc_GExpr_c3 K env H := Eq.trans rfl rfl
def slices_ContainsFunc_GExpr_rs : List ARV := [.tmp 4]
abbrev slices_ContainsFunc_GExpr_id : Nat := 81
theorem slices_ContainsFunc_GExpr_comp : compF PP slices_ContainsFunc_GExpr_kl slices_ContainsFunc_GExpr_ow 2 Try.f81 = some (slices_ContainsFunc_GExpr_ac, slices_ContainsFunc_GExpr_rs) := by kernel_rfl
theorem slices_ContainsFunc_GExpr_enter {args : List AV} {H : AHeap} {post : ARes → AHeap → Prop} (ha : args.length = 2) (h : aw PP slices_ContainsFunc_GExpr_ac (retK slices_ContainsFunc_GExpr_rs post) (argEnv 0 args) H) : ACalls PP slices_ContainsFunc_GExpr_id args H post := .enterF Try.func81 PP_mix slices_ContainsFunc_GExpr_comp ha h

/-! emendate.grammarfile.expr$1 -/
def grammarfile_expr_1_kl : Nat → List Nat
  | 0 => [0, 3]
  | 1 => [1, 2, 4, 5, 6, 7, 8]
  | _ => []
def grammarfile_expr_1_ow : Nat → Nat → Bool := fun _ _ => false
def grammarfile_expr_1_c0 : AC := .reg [⟨some 2, none, .box (.t 0) 3 47⟩, ⟨some 3, none, .mov (.c (.bool false))⟩] [0, 3]
@[simp] theorem grammarfile_expr_1_c0_eq {K : AK} {env : Env} {H : AHeap} : aw PP grammarfile_expr_1_c0 K env H = awOps PP [⟨some 2, none, .box (.t 0) 3 47⟩, ⟨some 3, none, .mov (.c (.bool false))⟩] (regK K [0, 3]) (panK K) env H := aw_reg _ _
def grammarfile_expr_1_c1 : AC := .reg [⟨some 4, none, .ld true 3 (.t 2)⟩, ⟨some 5, none, .ld false 1 (.t 1)⟩, ⟨some 6, none, .bin (.sub) (.t 5) (.c (.int (.i64) 1))⟩, ⟨some 7, none, .call (.c (.fn (.func 73) [] [])) [.t 4, .t 6]⟩, ⟨some 8, none, .not (.t 7)⟩, ⟨some 3, none, .mov (.t 8)⟩] [1, 2, 4, 5, 6, 7, 8]
@[simp] theorem grammarfile_expr_1_c1_eq {K : AK} {env : Env} {H : AHeap} : aw PP grammarfile_expr_1_c1 K env H = awOps PP [⟨some 4, none, .ld true 3 (.t 2)⟩, ⟨some 5, none, .ld false 1 (.t 1)⟩, ⟨some 6, none, .bin (.sub) (.t 5) (.c (.int (.i64) 1))⟩, ⟨some 7, none, .call (.c (.fn (.func 73) [] [])) [.t 4, .t 6]⟩, ⟨some 8, none, .not (.t 7)⟩, ⟨some 3, none, .mov (.t 8)⟩] (regK K [1, 2, 4, 5, 6, 7, 8]) (panK K) env H := aw_reg _ _
def grammarfile_expr_1_c2 : AC := .seq grammarfile_expr_1_c1 .ret
@[simp] theorem grammarfile_expr_1_c2_eq {K : AK} {env : Env} {H : AHeap} : aw PP grammarfile_expr_1_c2 K env H = aw PP grammarfile_expr_1_c1 (seqK PP .ret K) env H := aw_seq grammarfile_expr_1_c1 .ret
def grammarfile_expr_1_c3 : AC := .seq grammarfile_expr_1_c0 grammarfile_expr_1_c2
@[simp] theorem grammarfile_expr_1_c3_eq {K : AK} {env : Env} {H : AHeap} : aw PP grammarfile_expr_1_c3 K env H = aw PP grammarfile_expr_1_c0 (seqK PP grammarfile_expr_1_c2 K) env H := aw_seq grammarfile_expr_1_c0 grammarfile_expr_1_c2
def grammarfile_expr_1_ac : AC := grammarfile_expr_1_c3
@[simp] theorem grammarfile_expr_1_ac_eq {K : AK} {env : Env} {H : AHeap} : aw PP grammarfile_expr_1_ac K env H = aw PP grammarfile_expr_1_c3 K env H := Eq.trans rfl rfl
def grammarfile_expr_1_rs : List ARV := [.tmp 3]
abbrev grammarfile_expr_1_id : Nat := 82
theorem grammarfile_expr_1_comp : compF PP grammarfile_expr_1_kl grammarfile_expr_1_ow 2 Try.f82 = some (grammarfile_expr_1_ac, grammarfile_expr_1_rs) := by kernel_rfl
theorem grammarfile_expr_1_enter {args : List AV} {H : AHeap} {post : ARes → AHeap → Prop} (ha : args.length = 2) (h : aw PP grammarfile_expr_1_ac (retK grammarfile_expr_1_rs post) (argEnv 0 args) H) : ACalls PP grammarfile_expr_1_id args H post := .enterF Try.func82 PP_mix grammarfile_expr_1_comp ha h

/-! emendate.grammarfile.letter -/
def grammarfile_letter_kl : Nat → List Nat
  | 0 => [2]
  | 1 => [0, 3, 4, 5, 6, 7, 8, 9, 10, 11, 12, 13, 14, 15, 16]
  | _ => []
def grammarfile_letter_ow : Nat → Nat → Bool := fun _ _ => false
def grammarfile_letter_c0 : AC := .reg [⟨some 2, none, .mov (.c (.bool false))⟩] [2]
@[simp] theorem grammarfile_letter_c0_eq {K : AK} {env : Env} {H : AHeap} : aw PP grammarfile_letter_c0 K env H = awOps PP [⟨some 2, none, .mov (.c (.bool false))⟩] (regK K [2]) (panK K) env H := aw_reg _ _
def grammarfile_letter_c1 : AC := .reg [⟨some 3, none, .mov (.t 0)⟩, ⟨some 4, none, .bin (.geq) (.t 3) (.c (.int (.u8) 97))⟩, ⟨some 5, none, .mov (.t 4)⟩, ⟨some 6, some (5, true), .mov (.t 0)⟩, ⟨some 7, some (5, true), .bin (.leq) (.t 6) (.c (.int (.u8) 122))⟩, ⟨some 8, none, .pick (.t 5) (.t 7) (.c (.bool false))⟩, ⟨some 9, none, .mov (.t 8)⟩, ⟨some 10, some (9, false), .mov (.t 0)⟩, ⟨some 11, some (9, false), .bin (.geq) (.t 10) (.c (.int (.u8) 65))⟩, ⟨some 12, some (9, false), .mov (.t 11)⟩, ⟨some 13, some (12, true), .mov (.t 0)⟩, ⟨some 14, some (12, true), .bin (.leq) (.t 13) (.c (.int (.u8) 90))⟩, ⟨some 15, some (9, false), .pick (.t 12) (.t 14) (.c (.bool false))⟩, ⟨some 16, none, .pick (.t 9) (.c (.bool true)) (.t 15)⟩, ⟨some 2, none, .mov (.t 16)⟩] [0, 3, 4, 5, 6, 7, 8, 9, 10, 11, 12, 13, 14, 15, 16]
@[simp] theorem grammarfile_letter_c1_eq {K : AK} {env : Env} {H : AHeap} : aw PP grammarfile_letter_c1 K env H = awOps PP [⟨some 3, none, .mov (.t 0)⟩, ⟨some 4, none, .bin (.geq) (.t 3) (.c (.int (.u8) 97))⟩, ⟨some 5, none, .mov (.t 4)⟩, ⟨some 6, some (5, true), .mov (.t 0)⟩, ⟨some 7, some (5, true), .bin (.leq) (.t 6) (.c (.int (.u8) 122))⟩, ⟨some 8, none, .pick (.t 5) (.t 7) (.c (.bool false))⟩, ⟨some 9, none, .mov (.t 8)⟩, ⟨some 10, some (9, false), .mov (.t 0)⟩, ⟨some 11, some (9, false), .bin (.geq) (.t 10) (.c (.int (.u8) 65))⟩, ⟨some 12, some (9, false), .mov (.t 11)⟩, ⟨some 13, some (12, true), .mov (.t 0)⟩, ⟨some 14, some (12, true), .bin (.leq) (.t 13) (.c (.int (.u8) 90))⟩, ⟨some 15, some (9, false), .pick (.t 12) (.t 14) (.c (.bool false))⟩, ⟨some 16, none, .pick (.t 9) (.c (.bool true)) (.t 15)⟩, ⟨some 2, none, .mov (.t 16)⟩] (regK K [0, 3, 4, 5, 6, 7, 8, 9, 10, 11, 12, 13, 14, 15, 16]) (panK K) env H := aw_reg _ _
def grammarfile_letter_c2 : AC := .seq grammarfile_letter_c1 .ret
@[simp] theorem grammarfile_letter_c2_eq {K : AK} {env : Env} {H : AHeap} : aw PP grammarfile_letter_c2 K env H = aw PP grammarfile_letter_c1 (seqK PP .ret K) env H := aw_seq grammarfile_letter_c1 .ret
def grammarfile_letter_c3 : AC := .seq grammarfile_letter_c0 grammarfile_letter_c2
@[simp] theorem grammarfile_letter_c3_eq {K : AK} {env : Env} {H : AHeap} : aw PP grammarfile_letter_c3 K env H = aw PP grammarfile_letter_c0 (seqK PP grammarfile_letter_c2 K) env H := aw_seq grammarfile_letter_c0 grammarfile_letter_c2
def grammarfile_letter_ac : AC := grammarfile_letter_c3
@[simp] theorem grammarfile_letter_ac_eq {K : AK} {env : Env} {H : AHeap} : aw PP grammarfile_letter_ac K env H = aw PP grammarfile_letter_c3 K env H := Eq.trans rfl rfl
def grammarfile_letter_rs : List ARV := [.tmp 2]
abbrev grammarfile_letter_id : Nat := 83
theorem grammarfile_letter_comp : compF PP grammarfile_letter_kl grammarfile_letter_ow 1 Try.f83 = some (grammarfile_letter_ac, grammarfile_letter_rs) := by kernel_rfl
theorem grammarfile_letter_enter {args : List AV} {H : AHeap} {post : ARes → AHeap → Prop} (ha : args.length = 1) (h : aw PP grammarfile_letter_ac (retK grammarfile_letter_rs post) (argEnv 0 args) H) : ACalls PP grammarfile_letter_id args H post := .enterF Try.func83 PP_mix grammarfile_letter_comp ha h

/-! (*emendate.emendateref17.parser).item -/
def ref17_parser_item_kl : Nat → List Nat
  | 1 => [4, 5]
  | 2 => [6, 7, 8, 9]
  | 3 => [10, 11]
  | 4 => [0, 3, 13, 24]
  | 5 => [15]
  | 6 => [12, 14, 16, 17, 18]
  | 7 => [14, 20]
  | 8 => [12, 19, 21, 22, 23]
  | 9 => [12, 19, 25]
  | 10 => [24, 26, 27, 28]
  | 11 => [29, 30]
  | 12 => [0, 3, 10, 31]
  | _ => []
def ref17_parser_item_ow : Nat → Nat → Bool := fun _ _ => false
def ref17_parser_item_c0 : AC := .reg [⟨some 2, none, .alloc (.struct [.int (.i64) 0, .str [], .nils]) 47⟩] []
@[simp] theorem ref17_parser_item_c0_eq {K : AK} {env : Env} {H : AHeap} : aw PP ref17_parser_item_c0 K env H = awOps PP [⟨some 2, none, .alloc (.struct [.int (.i64) 0, .str [], .nils]) 47⟩] (regK K []) (panK K) env H := aw_reg _ _
def ref17_parser_item_c1 : AC := .reg [⟨some 4, none, .mov (.t 0)⟩, ⟨some 5, none, .call (.c (.fn (.func 87) [] [])) [.t 4]⟩, ⟨some 3, none, .alloc (.struct [.int (.i64) 0, .str [], .nils]) 47⟩, ⟨none, none, .st 3 (.t 3) (.t 5)⟩] [4, 5]
@[simp] theorem ref17_parser_item_c1_eq {K : AK} {env : Env} {H : AHeap} : aw PP ref17_parser_item_c1 K env H = awOps PP [⟨some 4, none, .mov (.t 0)⟩, ⟨some 5, none, .call (.c (.fn (.func 87) [] [])) [.t 4]⟩, ⟨some 3, none, .alloc (.struct [.int (.i64) 0, .str [], .nils]) 47⟩, ⟨none, none, .st 3 (.t 3) (.t 5)⟩] (regK K [4, 5]) (panK K) env H := aw_reg _ _
def ref17_parser_item_c2 : AC := .reg [⟨some 6, none, .mov (.t 0)⟩, ⟨some 7, none, .nilc (.t 6)⟩, ⟨some 8, none, .fa 3 3 (.t 7)⟩, ⟨some 9, none, .ld false 1 (.t 8)⟩, ⟨some 10, none, .not (.t 9)⟩] [6, 7, 8, 9]
@[simp] theorem ref17_parser_item_c2_eq {K : AK} {env : Env} {H : AHeap} : aw PP ref17_parser_item_c2 K env H = awOps PP [⟨some 6, none, .mov (.t 0)⟩, ⟨some 7, none, .nilc (.t 6)⟩, ⟨some 8, none, .fa 3 3 (.t 7)⟩, ⟨some 9, none, .ld false 1 (.t 8)⟩, ⟨some 10, none, .not (.t 9)⟩] (regK K [6, 7, 8, 9]) (panK K) env H := aw_reg _ _
def ref17_parser_item_c3 : AC := .cond (.t 10) .skip (.exit 0)
@[simp] theorem ref17_parser_item_c3_eq {K : AK} {env : Env} {H : AHeap} : aw PP ref17_parser_item_c3 K env H = condQ PP (Opd.ev env (.t 10)) .skip (.exit 0) K env H := aw_cond _ .skip (.exit 0)
def ref17_parser_item_c4 : AC := .seq ref17_parser_item_c2 ref17_parser_item_c3
@[simp] theorem ref17_parser_item_c4_eq {K : AK} {env : Env} {H : AHeap} : aw PP ref17_parser_item_c4 K env H = aw PP ref17_parser_item_c2 (seqK PP ref17_parser_item_c3 K) env H := aw_seq ref17_parser_item_c2 ref17_parser_item_c3
def ref17_parser_item_c5 : AC := .reg [⟨some 11, none, .mov (.t 0)⟩, ⟨some 12, none, .call (.c (.fn (.func 34) [] [])) [.t 11]⟩] [10, 11]
@[simp] theorem ref17_parser_item_c5_eq {K : AK} {env : Env} {H : AHeap} : aw PP ref17_parser_item_c5 K env H = awOps PP [⟨some 11, none, .mov (.t 0)⟩, ⟨some 12, none, .call (.c (.fn (.func 34) [] [])) [.t 11]⟩] (regK K [10, 11]) (panK K) env H := aw_reg _ _
def ref17_parser_item_c6 : AC := .reg [⟨some 15, none, .bin (.eql) (.t 12) (.c (.str [42]))⟩, ⟨some 14, none, .mov (.t 15)⟩] [15]
@[simp] theorem ref17_parser_item_c6_eq {K : AK} {env : Env} {H : AHeap} : aw PP ref17_parser_item_c6 K env H = awOps PP [⟨some 15, none, .bin (.eql) (.t 12) (.c (.str [42]))⟩, ⟨some 14, none, .mov (.t 15)⟩] (regK K [15]) (panK K) env H := aw_reg _ _
def ref17_parser_item_c7 : AC := .reg [⟨some 16, none, .ld true 3 (.t 3)⟩, ⟨some 17, none, .bsl false 47 3 1 (.struct [.int (.i64) 0, .str [], .nils]) [(0, .t 16)]⟩, ⟨some 18, none, .build [.int (.i64) 0, .str [], .nils] [(0, .c (.int (.i64) 5)), (2, .t 17)]⟩, ⟨none, none, .st 3 (.t 3) (.t 18)⟩] [12, 14, 16, 17, 18]
@[simp] theorem ref17_parser_item_c7_eq {K : AK} {env : Env} {H : AHeap} : aw PP ref17_parser_item_c7 K env H = awOps PP [⟨some 16, none, .ld true 3 (.t 3)⟩, ⟨some 17, none, .bsl false 47 3 1 (.struct [.int (.i64) 0, .str [], .nils]) [(0, .t 16)]⟩, ⟨some 18, none, .build [.int (.i64) 0, .str [], .nils] [(0, .c (.int (.i64) 5)), (2, .t 17)]⟩, ⟨none, none, .st 3 (.t 3) (.t 18)⟩] (regK K [12, 14, 16, 17, 18]) (panK K) env H := aw_reg _ _
def ref17_parser_item_c8 : AC := .reg [⟨some 20, none, .bin (.eql) (.t 12) (.c (.str [43]))⟩, ⟨some 19, none, .mov (.t 20)⟩] [14, 20]
@[simp] theorem ref17_parser_item_c8_eq {K : AK} {env : Env} {H : AHeap} : aw PP ref17_parser_item_c8 K env H = awOps PP [⟨some 20, none, .bin (.eql) (.t 12) (.c (.str [43]))⟩, ⟨some 19, none, .mov (.t 20)⟩] (regK K [14, 20]) (panK K) env H := aw_reg _ _
def ref17_parser_item_c9 : AC := .reg [⟨some 21, none, .ld true 3 (.t 3)⟩, ⟨some 22, none, .bsl false 47 3 1 (.struct [.int (.i64) 0, .str [], .nils]) [(0, .t 21)]⟩, ⟨some 23, none, .build [.int (.i64) 0, .str [], .nils] [(0, .c (.int (.i64) 6)), (2, .t 22)]⟩, ⟨none, none, .st 3 (.t 3) (.t 23)⟩] [12, 19, 21, 22, 23]
@[simp] theorem ref17_parser_item_c9_eq {K : AK} {env : Env} {H : AHeap} : aw PP ref17_parser_item_c9 K env H = awOps PP [⟨some 21, none, .ld true 3 (.t 3)⟩, ⟨some 22, none, .bsl false 47 3 1 (.struct [.int (.i64) 0, .str [], .nils]) [(0, .t 21)]⟩, ⟨some 23, none, .build [.int (.i64) 0, .str [], .nils] [(0, .c (.int (.i64) 6)), (2, .t 22)]⟩, ⟨none, none, .st 3 (.t 3) (.t 23)⟩] (regK K [12, 19, 21, 22, 23]) (panK K) env H := aw_reg _ _
def ref17_parser_item_c10 : AC := .reg [⟨some 25, none, .bin (.eql) (.t 12) (.c (.str [63]))⟩, ⟨some 24, none, .mov (.t 25)⟩] [12, 19, 25]
@[simp] theorem ref17_parser_item_c10_eq {K : AK} {env : Env} {H : AHeap} : aw PP ref17_parser_item_c10 K env H = awOps PP [⟨some 25, none, .bin (.eql) (.t 12) (.c (.str [63]))⟩, ⟨some 24, none, .mov (.t 25)⟩] (regK K [12, 19, 25]) (panK K) env H := aw_reg _ _
def ref17_parser_item_c11 : AC := .reg [⟨some 26, none, .ld true 3 (.t 3)⟩, ⟨some 27, none, .bsl false 47 3 1 (.struct [.int (.i64) 0, .str [], .nils]) [(0, .t 26)]⟩, ⟨some 28, none, .build [.int (.i64) 0, .str [], .nils] [(0, .c (.int (.i64) 4)), (2, .t 27)]⟩, ⟨none, none, .st 3 (.t 3) (.t 28)⟩] [24, 26, 27, 28]
@[simp] theorem ref17_parser_item_c11_eq {K : AK} {env : Env} {H : AHeap} : aw PP ref17_parser_item_c11 K env H = awOps PP [⟨some 26, none, .ld true 3 (.t 3)⟩, ⟨some 27, none, .bsl false 47 3 1 (.struct [.int (.i64) 0, .str [], .nils]) [(0, .t 26)]⟩, ⟨some 28, none, .build [.int (.i64) 0, .str [], .nils] [(0, .c (.int (.i64) 4)), (2, .t 27)]⟩, ⟨none, none, .st 3 (.t 3) (.t 28)⟩] (regK K [24, 26, 27, 28]) (panK K) env H := aw_reg _ _
def ref17_parser_item_c12 : AC := .reg [⟨some 13, none, .ld true 3 (.t 3)⟩, ⟨none, none, .st 3 (.t 2) (.t 13)⟩] [0, 3, 13, 24]
@[simp] theorem ref17_parser_item_c12_eq {K : AK} {env : Env} {H : AHeap} : aw PP ref17_parser_item_c12 K env H = awOps PP [⟨some 13, none, .ld true 3 (.t 3)⟩, ⟨none, none, .st 3 (.t 2) (.t 13)⟩] (regK K [0, 3, 13, 24]) (panK K) env H := aw_reg _ _
def ref17_parser_item_c13 : AC := .seq ref17_parser_item_c12 .ret
@[simp] theorem ref17_parser_item_c13_eq {K : AK} {env : Env} {H : AHeap} : aw PP ref17_parser_item_c13 K env H = aw PP ref17_parser_item_c12 (seqK PP .ret K) env H := aw_seq ref17_parser_item_c12 .ret
def ref17_parser_item_c14 : AC := .cond (.t 24) ref17_parser_item_c11 ref17_parser_item_c13
@[simp] theorem ref17_parser_item_c14_eq {K : AK} {env : Env} {H : AHeap} : aw PP ref17_parser_item_c14 K env H = condQ PP (Opd.ev env (.t 24)) ref17_parser_item_c11 ref17_parser_item_c13 K env H := aw_cond _ ref17_parser_item_c11 ref17_parser_item_c13
def ref17_parser_item_c15 : AC := .seq ref17_parser_item_c10 ref17_parser_item_c14
@[simp] theorem ref17_parser_item_c15_eq {K : AK} {env : Env} {H : AHeap} : aw PP ref17_parser_item_c15 K env H = aw PP ref17_parser_item_c10 (seqK PP ref17_parser_item_c14 K) env H := aw_seq ref17_parser_item_c10 ref17_parser_item_c14
def ref17_parser_item_c16 : AC := .cond (.t 19) ref17_parser_item_c9 ref17_parser_item_c15
@[simp] theorem ref17_parser_item_c16_eq {K : AK} {env : Env} {H : AHeap} : aw PP ref17_parser_item_c16 K env H = condQ PP (Opd.ev env (.t 19)) ref17_parser_item_c9 ref17_parser_item_c15 K env H := aw_cond _ ref17_parser_item_c9 ref17_parser_item_c15
def ref17_parser_item_c17 : AC := .seq ref17_parser_item_c8 ref17_parser_item_c16
@[simp] theorem ref17_parser_item_c17_eq {K : AK} {env : Env} {H : AHeap} : aw PP ref17_parser_item_c17 K env H = aw PP ref17_parser_item_c8 (seqK PP ref17_parser_item_c16 K) env H := aw_seq ref17_parser_item_c8 ref17_parser_item_c16
def ref17_parser_item_c18 : AC := .cond (.t 14) ref17_parser_item_c7 ref17_parser_item_c17
@[simp] theorem ref17_parser_item_c18_eq {K : AK} {env : Env} {H : AHeap} : aw PP ref17_parser_item_c18 K env H = condQ PP (Opd.ev env (.t 14)) ref17_parser_item_c7 ref17_parser_item_c17 K env H := aw_cond _ ref17_parser_item_c7 ref17_parser_item_c17
def ref17_parser_item_c19 : AC := .seq ref17_parser_item_c6 ref17_parser_item_c18
@[simp] theorem ref17_parser_item_c19_eq {K : AK} {env : Env} {H : AHeap} : aw PP ref17_parser_item_c19 K env H = aw PP ref17_parser_item_c6 (seqK PP ref17_parser_item_c18 K) env H := aw_seq ref17_parser_item_c6 ref17_parser_item_c18
def ref17_parser_item_c20 : AC := .block 2 ref17_parser_item_c19
@[simp] theorem ref17_parser_item_c20_eq {K : AK} {env : Env} {H : AHeap} : aw PP ref17_parser_item_c20 K env H = aw PP ref17_parser_item_c19 (blockK 2 K) env H := aw_block _ ref17_parser_item_c19
def ref17_parser_item_c21 : AC := .seq ref17_parser_item_c5 ref17_parser_item_c20
@[simp] theorem ref17_parser_item_c21_eq {K : AK} {env : Env} {H : AHeap} : aw PP ref17_parser_item_c21 K env H = aw PP ref17_parser_item_c5 (seqK PP ref17_parser_item_c20 K) env H := aw_seq ref17_parser_item_c5 ref17_parser_item_c20
def ref17_parser_item_c22 : AC := .reg [⟨some 29, none, .mov (.t 0)⟩, ⟨some 30, none, .call (.c (.fn (.func 25) [] [])) [.t 29]⟩] [29, 30]
@[simp] theorem ref17_parser_item_c22_eq {K : AK} {env : Env} {H : AHeap} : aw PP ref17_parser_item_c22 K env H = awOps PP [⟨some 29, none, .mov (.t 0)⟩, ⟨some 30, none, .call (.c (.fn (.func 25) [] [])) [.t 29]⟩] (regK K [29, 30]) (panK K) env H := aw_reg _ _
def ref17_parser_item_c23 : AC := .seq ref17_parser_item_c21 ref17_parser_item_c22
@[simp] theorem ref17_parser_item_c23_eq {K : AK} {env : Env} {H : AHeap} : aw PP ref17_parser_item_c23 K env H = aw PP ref17_parser_item_c21 (seqK PP ref17_parser_item_c22 K) env H := aw_seq ref17_parser_item_c21 ref17_parser_item_c22
def ref17_parser_item_c24 : AC := .block 1 ref17_parser_item_c23
@[simp] theorem ref17_parser_item_c24_eq {K : AK} {env : Env} {H : AHeap} : aw PP ref17_parser_item_c24 K env H = aw PP ref17_parser_item_c23 (blockK 1 K) env H := aw_block _ ref17_parser_item_c23
def ref17_parser_item_c25 : AC := .seq ref17_parser_item_c4 ref17_parser_item_c24
@[simp] theorem ref17_parser_item_c25_eq {K : AK} {env : Env} {H : AHeap} : aw PP ref17_parser_item_c25 K env H = aw PP ref17_parser_item_c4 (seqK PP ref17_parser_item_c24 K) env H := aw_seq ref17_parser_item_c4 ref17_parser_item_c24
def ref17_parser_item_c26 : AC := .loop ref17_parser_item_c25
def ref17_parser_item_c27 : AC := .block 0 ref17_parser_item_c26
@[simp] theorem ref17_parser_item_c27_eq {K : AK} {env : Env} {H : AHeap} : aw PP ref17_parser_item_c27 K env H = aw PP ref17_parser_item_c26 (blockK 0 K) env H := aw_block _ ref17_parser_item_c26
def ref17_parser_item_c28 : AC := .reg [⟨some 31, none, .ld true 3 (.t 3)⟩, ⟨none, none, .st 3 (.t 2) (.t 31)⟩] [0, 3, 10, 31]
@[simp] theorem ref17_parser_item_c28_eq {K : AK} {env : Env} {H : AHeap} : aw PP ref17_parser_item_c28 K env H = awOps PP [⟨some 31, none, .ld true 3 (.t 3)⟩, ⟨none, none, .st 3 (.t 2) (.t 31)⟩] (regK K [0, 3, 10, 31]) (panK K) env H := aw_reg _ _
def ref17_parser_item_c29 : AC := .seq ref17_parser_item_c28 .ret
@[simp] theorem ref17_parser_item_c29_eq {K : AK} {env : Env} {H : AHeap} : aw PP ref17_parser_item_c29 K env H = aw PP ref17_parser_item_c28 (seqK PP .ret K) env H := aw_seq ref17_parser_item_c28 .ret
def ref17_parser_item_c30 : AC := .seq ref17_parser_item_c27 ref17_parser_item_c29
@[simp] theorem ref17_parser_item_c30_eq {K : AK} {env : Env} {H : AHeap} : aw PP ref17_parser_item_c30 K env H = aw PP ref17_parser_item_c27 (seqK PP ref17_parser_item_c29 K) env H := aw_seq ref17_parser_item_c27 ref17_parser_item_c29
def ref17_parser_item_c31 : AC := .seq ref17_parser_item_c1 ref17_parser_item_c30
@[simp] theorem ref17_parser_item_c31_eq {K : AK} {env : Env} {H : AHeap} : aw PP ref17_parser_item_c31 K env H = aw PP ref17_parser_item_c1 (seqK PP ref17_parser_item_c30 K) env H := aw_seq ref17_parser_item_c1 ref17_parser_item_c30
def ref17_parser_item_c32 : AC := .seq ref17_parser_item_c0 ref17_parser_item_c31
@[simp] theorem ref17_parser_item_c32_eq {K : AK} {env : Env} {H : AHeap} : aw PP ref17_parser_item_c32 K env H = aw PP ref17_parser_item_c0 (seqK PP ref17_parser_item_c31 K) env H := aw_seq ref17_parser_item_c0 ref17_parser_item_c31
def ref17_parser_item_ac : AC := ref17_parser_item_c32
@[simp] theorem ref17_parser_item_ac_eq {K : AK} {env : Env} {H : AHeap} : aw PP ref17_parser_item_ac K env H = aw PP ref17_parser_item_c32 K env H := Eq.trans rfl rfl
def ref17_parser_item_rs : List ARV := [.cell 2 true 3]
abbrev ref17_parser_item_id : Nat := 84
theorem ref17_parser_item_comp : compF PP ref17_parser_item_kl ref17_parser_item_ow 1 Try.f84 = some (ref17_parser_item_ac, ref17_parser_item_rs) := by kernel_rfl
theorem ref17_parser_item_enter {args : List AV} {H : AHeap} {post : ARes → AHeap → Prop} (ha : args.length = 1) (h : aw PP ref17_parser_item_ac (retK ref17_parser_item_rs post) (argEnv 0 args) H) : ACalls PP ref17_parser_item_id args H post := .enterF Try.func84 PP_mix ref17_parser_item_comp ha h

/-! (*emendate.grammarparser.reader).primary -/
def grammarparser_reader_primary_kl : Nat → List Nat
  | 1 => [4]
  | 2 => [0, 5, 6, 7, 8]
  | 3 => [5, 9, 10]
  | 4 => [11, 12, 13]
  | 5 => [14, 15, 16]
  | 6 => [17, 18, 19]
  | 7 => [20, 21, 22, 23, 24]
  | 8 => [0, 17, 25, 26]
  | 9 => [27, 28]
  | 10 => [3, 29, 30, 31, 32]
  | 11 => [3, 29, 33, 34]
  | _ => []
def grammarparser_reader_primary_ow : Nat → Nat → Bool := fun a b => (a == 4 && b == 2)
def grammarparser_reader_primary_c0 : AC := .reg [⟨some 2, none, .alloc (.struct [.int (.i64) 0, .str [], .nils]) 47⟩] []
@[simp] theorem grammarparser_reader_primary_c0_eq {K : AK} {env : Env} {H : AHeap} : aw PP grammarparser_reader_primary_c0 K env H = awOps PP [⟨some 2, none, .alloc (.struct [.int (.i64) 0, .str [], .nils]) 47⟩] (regK K []) (panK K) env H := aw_reg _ _
def grammarparser_reader_primary_c1 : AC := .reg [⟨some 4, none, .mov (.t 0)⟩, ⟨some 5, none, .call (.c (.fn (.func 69) [] [])) [.t 4]⟩] [4]
@[simp] theorem grammarparser_reader_primary_c1_eq {K : AK} {env : Env} {H : AHeap} : aw PP grammarparser_reader_primary_c1 K env H = awOps PP [⟨some 4, none, .mov (.t 0)⟩, ⟨some 5, none, .call (.c (.fn (.func 69) [] [])) [.t 4]⟩] (regK K [4]) (panK K) env H := aw_reg _ _
def grammarparser_reader_primary_c2 : AC := .reg [⟨some 6, none, .mov (.t 0)⟩, ⟨some 7, none, .call (.c (.fn (.func 21) [] [])) [.t 6]⟩, ⟨some 8, none, .build [.int (.i64) 0, .str [], .nils] [(0, .c (.int (.i64) 1)), (1, .t 7)]⟩, ⟨none, none, .st 3 (.t 2) (.t 8)⟩] [0, 5, 6, 7, 8]
@[simp] theorem grammarparser_reader_primary_c2_eq {K : AK} {env : Env} {H : AHeap} : aw PP grammarparser_reader_primary_c2 K env H = awOps PP [⟨some 6, none, .mov (.t 0)⟩, ⟨some 7, none, .call (.c (.fn (.func 21) [] [])) [.t 6]⟩, ⟨some 8, none, .build [.int (.i64) 0, .str [], .nils] [(0, .c (.int (.i64) 1)), (1, .t 7)]⟩, ⟨none, none, .st 3 (.t 2) (.t 8)⟩] (regK K [0, 5, 6, 7, 8]) (panK K) env H := aw_reg _ _
def grammarparser_reader_primary_c3 : AC := .seq grammarparser_reader_primary_c2 .ret
@[simp] theorem grammarparser_reader_primary_c3_eq {K : AK} {env : Env} {H : AHeap} : aw PP grammarparser_reader_primary_c3 K env H = aw PP grammarparser_reader_primary_c2 (seqK PP .ret K) env H := aw_seq grammarparser_reader_primary_c2 .ret
def grammarparser_reader_primary_c4 : AC := .cond (.t 5) grammarparser_reader_primary_c3 .skip
@[simp] theorem grammarparser_reader_primary_c4_eq {K : AK} {env : Env} {H : AHeap} : aw PP grammarparser_reader_primary_c4 K env H = condQ PP (Opd.ev env (.t 5)) grammarparser_reader_primary_c3 .skip K env H := aw_cond _ grammarparser_reader_primary_c3 .skip
def grammarparser_reader_primary_c5 : AC := .seq grammarparser_reader_primary_c1 grammarparser_reader_primary_c4
@[simp] theorem grammarparser_reader_primary_c5_eq {K : AK} {env : Env} {H : AHeap} : aw PP grammarparser_reader_primary_c5 K env H = aw PP grammarparser_reader_primary_c1 (seqK PP grammarparser_reader_primary_c4 K) env H := aw_seq grammarparser_reader_primary_c1 grammarparser_reader_primary_c4
def grammarparser_reader_primary_c6 : AC := .reg [⟨some 9, none, .mov (.t 0)⟩, ⟨some 10, none, .call (.c (.fn (.func 20) [] [])) [.t 9, .c (.str [40])]⟩] [5, 9, 10]
@[simp] theorem grammarparser_reader_primary_c6_eq {K : AK} {env : Env} {H : AHeap} : aw PP grammarparser_reader_primary_c6 K env H = awOps PP [⟨some 9, none, .mov (.t 0)⟩, ⟨some 10, none, .call (.c (.fn (.func 20) [] [])) [.t 9, .c (.str [40])]⟩] (regK K [5, 9, 10]) (panK K) env H := aw_reg _ _
def grammarparser_reader_primary_c7 : AC := .reg [⟨some 11, none, .mov (.t 0)⟩, ⟨some 12, none, .call (.c (.fn (.func 70) [] [])) [.t 11]⟩, ⟨some 13, none, .bsl true 47 3 1 (.struct [.int (.i64) 0, .str [], .nils]) [(0, .t 12)]⟩, ⟨some 3, none, .mov (.t 13)⟩] [11, 12, 13]
@[simp] theorem grammarparser_reader_primary_c7_eq {K : AK} {env : Env} {H : AHeap} : aw PP grammarparser_reader_primary_c7 K env H = awOps PP [⟨some 11, none, .mov (.t 0)⟩, ⟨some 12, none, .call (.c (.fn (.func 70) [] [])) [.t 11]⟩, ⟨some 13, none, .bsl true 47 3 1 (.struct [.int (.i64) 0, .str [], .nils]) [(0, .t 12)]⟩, ⟨some 3, none, .mov (.t 13)⟩] (regK K [11, 12, 13]) (panK K) env H := aw_reg _ _
def grammarparser_reader_primary_c8 : AC := .reg [⟨some 14, none, .mov (.t 0)⟩, ⟨some 15, none, .call (.c (.fn (.func 53) [] [])) [.t 14]⟩, ⟨some 16, none, .fld 1 1 1 false (.t 15)⟩, ⟨some 17, none, .bin (.eql) (.t 16) (.c (.str [124]))⟩] [14, 15, 16]
@[simp] theorem grammarparser_reader_primary_c8_eq {K : AK} {env : Env} {H : AHeap} : aw PP grammarparser_reader_primary_c8 K env H = awOps PP [⟨some 14, none, .mov (.t 0)⟩, ⟨some 15, none, .call (.c (.fn (.func 53) [] [])) [.t 14]⟩, ⟨some 16, none, .fld 1 1 1 false (.t 15)⟩, ⟨some 17, none, .bin (.eql) (.t 16) (.c (.str [124]))⟩] (regK K [14, 15, 16]) (panK K) env H := aw_reg _ _
def grammarparser_reader_primary_c9 : AC := .cond (.t 17) .skip (.exit 0)
@[simp] theorem grammarparser_reader_primary_c9_eq {K : AK} {env : Env} {H : AHeap} : aw PP grammarparser_reader_primary_c9 K env H = condQ PP (Opd.ev env (.t 17)) .skip (.exit 0) K env H := aw_cond _ .skip (.exit 0)
def grammarparser_reader_primary_c10 : AC := .seq grammarparser_reader_primary_c8 grammarparser_reader_primary_c9
@[simp] theorem grammarparser_reader_primary_c10_eq {K : AK} {env : Env} {H : AHeap} : aw PP grammarparser_reader_primary_c10 K env H = aw PP grammarparser_reader_primary_c8 (seqK PP grammarparser_reader_primary_c9 K) env H := aw_seq grammarparser_reader_primary_c8 grammarparser_reader_primary_c9
def grammarparser_reader_primary_c11 : AC := .reg [⟨some 18, none, .mov (.t 0)⟩, ⟨some 19, none, .call (.c (.fn (.func 55) [] [])) [.t 18]⟩] [17, 18, 19]
@[simp] theorem grammarparser_reader_primary_c11_eq {K : AK} {env : Env} {H : AHeap} : aw PP grammarparser_reader_primary_c11 K env H = awOps PP [⟨some 18, none, .mov (.t 0)⟩, ⟨some 19, none, .call (.c (.fn (.func 55) [] [])) [.t 18]⟩] (regK K [17, 18, 19]) (panK K) env H := aw_reg _ _
def grammarparser_reader_primary_c12 : AC := .reg [⟨some 20, none, .mov (.t 3)⟩, ⟨some 21, none, .mov (.t 0)⟩, ⟨some 22, none, .call (.c (.fn (.func 70) [] [])) [.t 21]⟩, ⟨some 23, none, .bsl false 47 3 1 (.struct [.int (.i64) 0, .str [], .nils]) [(0, .t 22)]⟩, ⟨some 24, none, .app 47 3 48 (.t 20) (.t 23)⟩, ⟨some 3, none, .mov (.t 24)⟩] [20, 21, 22, 23, 24]
@[simp] theorem grammarparser_reader_primary_c12_eq {K : AK} {env : Env} {H : AHeap} : aw PP grammarparser_reader_primary_c12 K env H = awOps PP [⟨some 20, none, .mov (.t 3)⟩, ⟨some 21, none, .mov (.t 0)⟩, ⟨some 22, none, .call (.c (.fn (.func 70) [] [])) [.t 21]⟩, ⟨some 23, none, .bsl false 47 3 1 (.struct [.int (.i64) 0, .str [], .nils]) [(0, .t 22)]⟩, ⟨some 24, none, .app 47 3 48 (.t 20) (.t 23)⟩, ⟨some 3, none, .mov (.t 24)⟩] (regK K [20, 21, 22, 23, 24]) (panK K) env H := aw_reg _ _
def grammarparser_reader_primary_c13 : AC := .seq grammarparser_reader_primary_c11 grammarparser_reader_primary_c12
@[simp] theorem grammarparser_reader_primary_c13_eq {K : AK} {env : Env} {H : AHeap} : aw PP grammarparser_reader_primary_c13 K env H = aw PP grammarparser_reader_primary_c11 (seqK PP grammarparser_reader_primary_c12 K) env H := aw_seq grammarparser_reader_primary_c11 grammarparser_reader_primary_c12
def grammarparser_reader_primary_c14 : AC := .block 1 grammarparser_reader_primary_c13
@[simp] theorem grammarparser_reader_primary_c14_eq {K : AK} {env : Env} {H : AHeap} : aw PP grammarparser_reader_primary_c14 K env H = aw PP grammarparser_reader_primary_c13 (blockK 1 K) env H := aw_block _ grammarparser_reader_primary_c13
def grammarparser_reader_primary_c15 : AC := .seq grammarparser_reader_primary_c10 grammarparser_reader_primary_c14
@[simp] theorem grammarparser_reader_primary_c15_eq {K : AK} {env : Env} {H : AHeap} : aw PP grammarparser_reader_primary_c15 K env H = aw PP grammarparser_reader_primary_c10 (seqK PP grammarparser_reader_primary_c14 K) env H := aw_seq grammarparser_reader_primary_c10 grammarparser_reader_primary_c14
def grammarparser_reader_primary_c16 : AC := .loop grammarparser_reader_primary_c15
def grammarparser_reader_primary_c17 : AC := .block 0 grammarparser_reader_primary_c16
@[simp] theorem grammarparser_reader_primary_c17_eq {K : AK} {env : Env} {H : AHeap} : aw PP grammarparser_reader_primary_c17 K env H = aw PP grammarparser_reader_primary_c16 (blockK 0 K) env H := aw_block _ grammarparser_reader_primary_c16
def grammarparser_reader_primary_c18 : AC := .reg [⟨some 25, none, .mov (.t 0)⟩, ⟨some 26, none, .call (.c (.fn (.func 20) [] [])) [.t 25, .c (.str [41])]⟩] [0, 17, 25, 26]
@[simp] theorem grammarparser_reader_primary_c18_eq {K : AK} {env : Env} {H : AHeap} : aw PP grammarparser_reader_primary_c18 K env H = awOps PP [⟨some 25, none, .mov (.t 0)⟩, ⟨some 26, none, .call (.c (.fn (.func 20) [] [])) [.t 25, .c (.str [41])]⟩] (regK K [0, 17, 25, 26]) (panK K) env H := aw_reg _ _
def grammarparser_reader_primary_c19 : AC := .reg [⟨some 27, none, .mov (.t 3)⟩, ⟨some 28, none, .lenl (.t 27)⟩, ⟨some 29, none, .bin (.eql) (.t 28) (.c (.int (.i64) 1))⟩] [27, 28]
@[simp] theorem grammarparser_reader_primary_c19_eq {K : AK} {env : Env} {H : AHeap} : aw PP grammarparser_reader_primary_c19 K env H = awOps PP [⟨some 27, none, .mov (.t 3)⟩, ⟨some 28, none, .lenl (.t 27)⟩, ⟨some 29, none, .bin (.eql) (.t 28) (.c (.int (.i64) 1))⟩] (regK K [27, 28]) (panK K) env H := aw_reg _ _
def grammarparser_reader_primary_c20 : AC := .reg [⟨some 30, none, .mov (.t 3)⟩, ⟨some 31, none, .ixa 3 (.t 30) (.c (.int (.i64) 0))⟩, ⟨some 32, none, .ld true 3 (.t 31)⟩, ⟨none, none, .st 3 (.t 2) (.t 32)⟩] [3, 29, 30, 31, 32]
@[simp] theorem grammarparser_reader_primary_c20_eq {K : AK} {env : Env} {H : AHeap} : aw PP grammarparser_reader_primary_c20 K env H = awOps PP [⟨some 30, none, .mov (.t 3)⟩, ⟨some 31, none, .ixa 3 (.t 30) (.c (.int (.i64) 0))⟩, ⟨some 32, none, .ld true 3 (.t 31)⟩, ⟨none, none, .st 3 (.t 2) (.t 32)⟩] (regK K [3, 29, 30, 31, 32]) (panK K) env H := aw_reg _ _
def grammarparser_reader_primary_c21 : AC := .seq grammarparser_reader_primary_c20 .ret
@[simp] theorem grammarparser_reader_primary_c21_eq {K : AK} {env : Env} {H : AHeap} : aw PP grammarparser_reader_primary_c21 K env H = aw PP grammarparser_reader_primary_c20 (seqK PP .ret K) env H := aw_seq grammarparser_reader_primary_c20 .ret
def grammarparser_reader_primary_c22 : AC := .cond (.t 29) grammarparser_reader_primary_c21 .skip
@[simp] theorem grammarparser_reader_primary_c22_eq {K : AK} {env : Env} {H : AHeap} : aw PP grammarparser_reader_primary_c22 K env H = condQ PP (Opd.ev env (.t 29)) grammarparser_reader_primary_c21 .skip K env H := aw_cond _ grammarparser_reader_primary_c21 .skip
def grammarparser_reader_primary_c23 : AC := .seq grammarparser_reader_primary_c19 grammarparser_reader_primary_c22
@[simp] theorem grammarparser_reader_primary_c23_eq {K : AK} {env : Env} {H : AHeap} : aw PP grammarparser_reader_primary_c23 K env H = aw PP grammarparser_reader_primary_c19 (seqK PP grammarparser_reader_primary_c22 K) env H := aw_seq grammarparser_reader_primary_c19 grammarparser_reader_primary_c22
def grammarparser_reader_primary_c24 : AC := .reg [⟨some 33, none, .mov (.t 3)⟩, ⟨some 34, none, .build [.int (.i64) 0, .str [], .nils] [(0, .c (.int (.i64) 3)), (2, .t 33)]⟩, ⟨none, none, .st 3 (.t 2) (.t 34)⟩] [3, 29, 33, 34]
@[simp] theorem grammarparser_reader_primary_c24_eq {K : AK} {env : Env} {H : AHeap} : aw PP grammarparser_reader_primary_c24 K env H = awOps PP [⟨some 33, none, .mov (.t 3)⟩, ⟨some 34, none, .build [.int (.i64) 0, .str [], .nils] [(0, .c (.int (.i64) 3)), (2, .t 33)]⟩, ⟨none, none, .st 3 (.t 2) (.t 34)⟩] (regK K [3, 29, 33, 34]) (panK K) env H := aw_reg _ _
def grammarparser_reader_primary_c25 : AC := .seq grammarparser_reader_primary_c24 .ret
@[simp] theorem grammarparser_reader_primary_c25_eq {K : AK} {env : Env} {H : AHeap} : aw PP grammarparser_reader_primary_c25 K env H = aw PP grammarparser_reader_primary_c24 (seqK PP .ret K) env H := aw_seq grammarparser_reader_primary_c24 .ret
def grammarparser_reader_primary_c26 : AC := .seq grammarparser_reader_primary_c23 grammarparser_reader_primary_c25
@[simp] theorem grammarparser_reader_primary_c26_eq {K : AK} {env : Env} {H : AHeap} : aw PP grammarparser_reader_primary_c26 K env H = aw PP grammarparser_reader_primary_c23 (seqK PP grammarparser_reader_primary_c25 K) env H := aw_seq grammarparser_reader_primary_c23 grammarparser_reader_primary_c25
def grammarparser_reader_primary_c27 : AC := .seq grammarparser_reader_primary_c18 grammarparser_reader_primary_c26
@[simp] theorem grammarparser_reader_primary_c27_eq {K : AK} {env : Env} {H : AHeap} : aw PP grammarparser_reader_primary_c27 K env H = aw PP grammarparser_reader_primary_c18 (seqK PP grammarparser_reader_primary_c26 K) env H := aw_seq grammarparser_reader_primary_c18 grammarparser_reader_primary_c26
def grammarparser_reader_primary_c28 : AC := .seq grammarparser_reader_primary_c17 grammarparser_reader_primary_c27
@[simp] theorem grammarparser_reader_primary_c28_eq {K : AK} {env : Env} {H : AHeap} : aw PP grammarparser_reader_primary_c28 K env H = aw PP grammarparser_reader_primary_c17 (seqK PP grammarparser_reader_primary_c27 K) env H := aw_seq grammarparser_reader_primary_c17 grammarparser_reader_primary_c27
def grammarparser_reader_primary_c29 : AC := .seq grammarparser_reader_primary_c7 grammarparser_reader_primary_c28
@[simp] theorem grammarparser_reader_primary_c29_eq {K : AK} {env : Env} {H : AHeap} : aw PP grammarparser_reader_primary_c29 K env H = aw PP grammarparser_reader_primary_c7 (seqK PP grammarparser_reader_primary_c28 K) env H := aw_seq grammarparser_reader_primary_c7 grammarparser_reader_primary_c28
def grammarparser_reader_primary_c30 : AC := .seq grammarparser_reader_primary_c6 grammarparser_reader_primary_c29
@[simp] theorem grammarparser_reader_primary_c30_eq {K : AK} {env : Env} {H : AHeap} : aw PP grammarparser_reader_primary_c30 K env H = aw PP grammarparser_reader_primary_c6 (seqK PP grammarparser_reader_primary_c29 K) env H := aw_seq grammarparser_reader_primary_c6 grammarparser_reader_primary_c29
def grammarparser_reader_primary_c31 : AC := .seq grammarparser_reader_primary_c5 grammarparser_reader_primary_c30
@[simp] theorem grammarparser_reader_primary_c31_eq {K : AK} {env : Env} {H : AHeap} : aw PP grammarparser_reader_primary_c31 K env H = aw PP grammarparser_reader_primary_c5 (seqK PP grammarparser_reader_primary_c30 K) env H := aw_seq grammarparser_reader_primary_c5 grammarparser_reader_primary_c30
def grammarparser_reader_primary_c32 : AC := .seq grammarparser_reader_primary_c0 grammarparser_reader_primary_c31
@[simp] theorem grammarparser_reader_primary_c32_eq {K : AK} {env : Env} {H : AHeap} : aw PP grammarparser_reader_primary_c32 K env H = aw PP grammarparser_reader_primary_c0 (seqK PP grammarparser_reader_primary_c31 K) env H := aw_seq grammarparser_reader_primary_c0 grammarparser_reader_primary_c31
def grammarparser_reader_primary_ac : AC := grammarparser_reader_primary_c32
@[simp] theorem grammarparser_reader_primary_ac_eq {K : AK} {env : Env} {H : AHeap} : aw PP grammarparser_reader_primary_ac K env H = aw PP grammarparser_reader_primary_c32 K env H := Eq.trans rfl rfl
def grammarparser_reader_primary_rs : List ARV := [.cell 2 true 3]
abbrev grammarparser_reader_primary_id : Nat := 85
theorem grammarparser_reader_primary_comp : compF PP grammarparser_reader_primary_kl grammarparser_reader_primary_ow 1 Try.f85 = some (grammarparser_reader_primary_ac, grammarparser_reader_primary_rs) := by kernel_rfl
theorem grammarparser_reader_primary_enter {args : List AV} {H : AHeap} {post : ARes → AHeap → Prop} (ha : args.length = 1) (h : aw PP grammarparser_reader_primary_ac (retK grammarparser_reader_primary_rs post) (argEnv 0 args) H) : ACalls PP grammarparser_reader_primary_id args H post := .enterF Try.func85 PP_mix grammarparser_reader_primary_comp ha h

/-! slices.IndexFunc[[]emendate.api.GExpr,emendate.api.GExpr] -/
def slices_IndexFunc_GExpr_kl : Nat → List Nat
  | 0 => [4]
  | 1 => [6]
  | 3 => [9, 10]
  | 4 => [11, 12, 13, 14, 15]
  | 5 => [0, 1, 5, 7, 8, 16, 17]
  | 6 => [5, 16, 18]
  | 7 => [0, 1, 7, 8, 9]
  | _ => []
def slices_IndexFunc_GExpr_ow : Nat → Nat → Bool := fun _ _ => false
def slices_IndexFunc_GExpr_c0 : AC := .reg [⟨some 4, none, .mov (.c (.int (.i64) 0))⟩] [4]
@[simp] theorem slices_IndexFunc_GExpr_c0_eq {K : AK} {env : Env} {H : AHeap} : aw PP slices_IndexFunc_GExpr_c0 K env H = awOps PP [⟨some 4, none, .mov (.c (.int (.i64) 0))⟩] (regK K [4]) (panK K) env H := aw_reg _ _
def slices_IndexFunc_GExpr_c1 : AC := .reg [⟨some 6, none, .mov (.t 0)⟩, ⟨some 7, none, .lenl (.t 6)⟩, ⟨some 8, none, .mov (.c (.int (.i64) 0))⟩] [6]
@[simp] theorem slices_IndexFunc_GExpr_c1_eq {K : AK} {env : Env} {H : AHeap} : aw PP slices_IndexFunc_GExpr_c1 K env H = awOps PP [⟨some 6, none, .mov (.t 0)⟩, ⟨some 7, none, .lenl (.t 6)⟩, ⟨some 8, none, .mov (.c (.int (.i64) 0))⟩] (regK K [6]) (panK K) env H := aw_reg _ _
def slices_IndexFunc_GExpr_c2 : AC := .reg [⟨some 9, none, .bin (.lss) (.t 8) (.t 7)⟩] []
@[simp] theorem slices_IndexFunc_GExpr_c2_eq {K : AK} {env : Env} {H : AHeap} : aw PP slices_IndexFunc_GExpr_c2 K env H = awOps PP [⟨some 9, none, .bin (.lss) (.t 8) (.t 7)⟩] (regK K []) (panK K) env H := aw_reg _ _
def slices_IndexFunc_GExpr_c3 : AC := .cond (.t 9) .skip (.exit 0)
@[simp] theorem slices_IndexFunc_GExpr_c3_eq {K : AK} {env : Env} {H : AHeap} : aw PP slices_IndexFunc_GExpr_c3 K env H = condQ PP (Opd.ev env (.t 9)) .skip (.exit 0) K env H := aw_cond _ .skip (.exit 0)
def slices_IndexFunc_GExpr_c4 : AC := .reg [⟨some 10, none, .mov (.t 8)⟩, ⟨some 5, none, .mov (.t 10)⟩] [9, 10]
@[simp] theorem slices_IndexFunc_GExpr_c4_eq {K : AK} {env : Env} {H : AHeap} : aw PP slices_IndexFunc_GExpr_c4 K env H = awOps PP [⟨some 10, none, .mov (.t 8)⟩, ⟨some 5, none, .mov (.t 10)⟩] (regK K [9, 10]) (panK K) env H := aw_reg _ _
def slices_IndexFunc_GExpr_c5 : AC := .reg [⟨some 11, none, .mov (.t 1)⟩, ⟨some 12, none, .mov (.t 0)⟩, ⟨some 13, none, .mov (.t 5)⟩, ⟨some 14, none, .ixa 3 (.t 12) (.t 13)⟩, ⟨some 15, none, .ld true 3 (.t 14)⟩, ⟨some 16, none, .call (.t 11) [.t 15]⟩] [11, 12, 13, 14, 15]
@[simp] theorem slices_IndexFunc_GExpr_c5_eq {K : AK} {env : Env} {H : AHeap} : aw PP slices_IndexFunc_GExpr_c5 K env H = awOps PP [⟨some 11, none, .mov (.t 1)⟩, ⟨some 12, none, .mov (.t 0)⟩, ⟨some 13, none, .mov (.t 5)⟩, ⟨some 14, none, .ixa 3 (.t 12) (.t 13)⟩, ⟨some 15, none, .ld true 3 (.t 14)⟩, ⟨some 16, none, .call (.t 11) [.t 15]⟩] (regK K [11, 12, 13, 14, 15]) (panK K) env H := aw_reg _ _
def slices_IndexFunc_GExpr_c6 : AC := .reg [⟨some 17, none, .mov (.t 5)⟩, ⟨some 4, none, .mov (.t 17)⟩] [0, 1, 5, 7, 8, 16, 17]
@[simp] theorem slices_IndexFunc_GExpr_c6_eq {K : AK} {env : Env} {H : AHeap} : aw PP slices_IndexFunc_GExpr_c6 K env H = awOps PP [⟨some 17, none, .mov (.t 5)⟩, ⟨some 4, none, .mov (.t 17)⟩] (regK K [0, 1, 5, 7, 8, 16, 17]) (panK K) env H := aw_reg _ _
def slices_IndexFunc_GExpr_c7 : AC := .seq slices_IndexFunc_GExpr_c6 .ret
@[simp] theorem slices_IndexFunc_GExpr_c7_eq {K : AK} {env : Env} {H : AHeap} : aw PP slices_IndexFunc_GExpr_c7 K env H = aw PP slices_IndexFunc_GExpr_c6 (seqK PP .ret K) env H := aw_seq slices_IndexFunc_GExpr_c6 .ret
def slices_IndexFunc_GExpr_c8 : AC := .cond (.t 16) slices_IndexFunc_GExpr_c7 .skip
@[simp] theorem slices_IndexFunc_GExpr_c8_eq {K : AK} {env : Env} {H : AHeap} : aw PP slices_IndexFunc_GExpr_c8 K env H = condQ PP (Opd.ev env (.t 16)) slices_IndexFunc_GExpr_c7 .skip K env H := aw_cond _ slices_IndexFunc_GExpr_c7 .skip
def slices_IndexFunc_GExpr_c9 : AC := .seq slices_IndexFunc_GExpr_c5 slices_IndexFunc_GExpr_c8
@[simp] theorem slices_IndexFunc_GExpr_c9_eq {K : AK} {env : Env} {H : AHeap} : aw PP slices_IndexFunc_GExpr_c9 K env H = aw PP slices_IndexFunc_GExpr_c5 (seqK PP slices_IndexFunc_GExpr_c8 K) env H := aw_seq slices_IndexFunc_GExpr_c5 slices_IndexFunc_GExpr_c8
def slices_IndexFunc_GExpr_c10 : AC := .seq slices_IndexFunc_GExpr_c4 slices_IndexFunc_GExpr_c9
@[simp] theorem slices_IndexFunc_GExpr_c10_eq {K : AK} {env : Env} {H : AHeap} : aw PP slices_IndexFunc_GExpr_c10 K env H = aw PP slices_IndexFunc_GExpr_c4 (seqK PP slices_IndexFunc_GExpr_c9 K) env H := aw_seq slices_IndexFunc_GExpr_c4 slices_IndexFunc_GExpr_c9
def slices_IndexFunc_GExpr_c11 : AC := .block 1 slices_IndexFunc_GExpr_c10
@[simp] theorem slices_IndexFunc_GExpr_c11_eq {K : AK} {env : Env} {H : AHeap} : aw PP slices_IndexFunc_GExpr_c11 K env H = aw PP slices_IndexFunc_GExpr_c10 (blockK 1 K) env H := aw_block _ slices_IndexFunc_GExpr_c10
def slices_IndexFunc_GExpr_c12 : AC := .reg [⟨some 18, none, .bin (.add) (.t 8) (.c (.int (.i64) 1))⟩, ⟨some 8, none, .mov (.t 18)⟩] [5, 16, 18]
@[simp] theorem slices_IndexFunc_GExpr_c12_eq {K : AK} {env : Env} {H : AHeap} : aw PP slices_IndexFunc_GExpr_c12 K env H = awOps PP [⟨some 18, none, .bin (.add) (.t 8) (.c (.int (.i64) 1))⟩, ⟨some 8, none, .mov (.t 18)⟩] (regK K [5, 16, 18]) (panK K) env H := aw_reg _ _
def slices_IndexFunc_GExpr_c13 : AC := .seq slices_IndexFunc_GExpr_c11 slices_IndexFunc_GExpr_c12
@[simp] theorem slices_IndexFunc_GExpr_c13_eq {K : AK} {env : Env} {H : AHeap} : aw PP slices_IndexFunc_GExpr_c13 K env H = aw PP slices_IndexFunc_GExpr_c11 (seqK PP slices_IndexFunc_GExpr_c12 K) env H := aw_seq slices_IndexFunc_GExpr_c11 slices_IndexFunc_GExpr_c12
def slices_IndexFunc_GExpr_c14 : AC := .seq slices_IndexFunc_GExpr_c3 slices_IndexFunc_GExpr_c13
@[simp] theorem slices_IndexFunc_GExpr_c14_eq {K : AK} {env : Env} {H : AHeap} : aw PP slices_IndexFunc_GExpr_c14 K env H = aw PP slices_IndexFunc_GExpr_c3 (seqK PP slices_IndexFunc_GExpr_c13 K) env H := aw_seq slices_IndexFunc_GExpr_c3 slices_IndexFunc_GExpr_c13
def slices_IndexFunc_GExpr_c15 : AC := .seq slices_IndexFunc_GExpr_c2 slices_IndexFunc_GExpr_c14
@[simp] theorem slices_IndexFunc_GExpr_c15_eq {K : AK} {env : Env} {H : AHeap} : aw PP slices_IndexFunc_GExpr_c15 K env H = aw PP slices_IndexFunc_GExpr_c2 (seqK PP slices_IndexFunc_GExpr_c14 K) env H := aw_seq slices_IndexFunc_GExpr_c2 slices_IndexFunc_GExpr_c14
def slices_IndexFunc_GExpr_c16 : AC := .loop slices_IndexFunc_GExpr_c15
def slices_IndexFunc_GExpr_c17 : AC := .block 0 slices_IndexFunc_GExpr_c16
@[simp] theorem slices_IndexFunc_GExpr_c17_eq {K : AK} {env : Env} {H : AHeap} : aw PP slices_IndexFunc_GExpr_c17 K env H = aw PP slices_IndexFunc_GExpr_c16 (blockK 0 K) env H := aw_block _ slices_IndexFunc_GExpr_c16
def slices_IndexFunc_GExpr_c18 : AC := .seq slices_IndexFunc_GExpr_c1 slices_IndexFunc_GExpr_c17
@[simp] theorem slices_IndexFunc_GExpr_c18_eq {K : AK} {env : Env} {H : AHeap} : aw PP slices_IndexFunc_GExpr_c18 K env H = aw PP slices_IndexFunc_GExpr_c1 (seqK PP slices_IndexFunc_GExpr_c17 K) env H := aw_seq slices_IndexFunc_GExpr_c1 slices_IndexFunc_GExpr_c17
def slices_IndexFunc_GExpr_c19 : AC := .reg [⟨some 4, none, .mov (.c (.int (.i64) (-1)))⟩] [0, 1, 7, 8, 9]
@[simp] theorem slices_IndexFunc_GExpr_c19_eq {K : AK} {env : Env} {H : AHeap} : aw PP slices_IndexFunc_GExpr_c19 K env H = awOps PP [⟨some 4, none, .mov (.c (.int (.i64) (-1)))⟩] (regK K [0, 1, 7, 8, 9]) (panK K) env H := aw_reg _ _
def slices_IndexFunc_GExpr_c20 : AC := .seq slices_IndexFunc_GExpr_c19 .ret
@[simp] theorem slices_IndexFunc_GExpr_c20_eq {K : AK} {env : Env} {H : AHeap} : aw PP slices_IndexFunc_GExpr_c20 K env H = aw PP slices_IndexFunc_GExpr_c19 (seqK PP .ret K) env H := aw_seq slices_IndexFunc_GExpr_c19 .ret
def slices_IndexFunc_GExpr_c21 : AC := .seq slices_IndexFunc_GExpr_c18 slices_IndexFunc_GExpr_c20
@[simp] theorem slices_IndexFunc_GExpr_c21_eq {K : AK} {env : Env} {H : AHeap} : aw PP slices_IndexFunc_GExpr_c21 K env H = aw PP slices_IndexFunc_GExpr_c18 (seqK PP slices_IndexFunc_GExpr_c20 K) env H := aw_seq slices_IndexFunc_GExpr_c18 slices_IndexFunc_GExpr_c20
def slices_IndexFunc_GExpr_c22 : AC := .seq slices_IndexFunc_GExpr_c0 slices_IndexFunc_GExpr_c21
@[simp] theorem slices_IndexFunc_GExpr_c22_eq {K : AK} {env : Env} {H : AHeap} : aw PP slices_IndexFunc_GExpr_c22 K env H = aw PP slices_IndexFunc_GExpr_c0 (seqK PP slices_IndexFunc_GExpr_c21 K) env H := aw_seq slices_IndexFunc_GExpr_c0 slices_IndexFunc_GExpr_c21
def slices_IndexFunc_GExpr_ac : AC := slices_IndexFunc_GExpr_c22
@[simp] theorem slices_IndexFunc_GExpr_ac_eq {K : AK} {env : Env} {H : AHeap} : aw PP slices_IndexFunc_GExpr_ac K env H = aw PP slices_IndexFunc_GExpr_c22 K env H := Eq.trans rfl rfl
def slices_IndexFunc_GExpr_rs : List ARV := [.tmp 4]
abbrev slices_IndexFunc_GExpr_id : Nat := 86
theorem slices_IndexFunc_GExpr_comp : compF PP slices_IndexFunc_GExpr_kl slices_IndexFunc_GExpr_ow 2 Try.f86 = some (slices_IndexFunc_GExpr_ac, slices_IndexFunc_GExpr_rs) := by kernel_rfl
theorem slices_IndexFunc_GExpr_enter {args : List AV} {H : AHeap} {post : ARes → AHeap → Prop} (ha : args.length = 2) (h : aw PP slices_IndexFunc_GExpr_ac (retK slices_IndexFunc_GExpr_rs post) (argEnv 0 args) H) : ACalls PP slices_IndexFunc_GExpr_id args H post := .enterF Try.func86 PP_mix slices_IndexFunc_GExpr_comp ha h

/-! (*emendate.emendateref17.parser).primary -/
def ref17_parser_primary_kl : Nat → List Nat
  | 1 => [4, 5]
  | 2 => [0, 6, 7, 8, 9]
  | 3 => [6, 10, 11]
  | 4 => [12, 13, 14]
  | 5 => [15]
  | 6 => [16, 17, 18]
  | 7 => [19, 20, 21, 22, 23]
  | 8 => [0, 16, 24, 25]
  | 9 => [26, 27]
  | 10 => [3, 28, 29, 30, 31]
  | 11 => [3, 28, 32, 33]
  | _ => []
def ref17_parser_primary_ow : Nat → Nat → Bool := fun a b => (a == 4 && b == 2)
def ref17_parser_primary_c0 : AC := .reg [⟨some 2, none, .alloc (.struct [.int (.i64) 0, .str [], .nils]) 47⟩] []
@[simp] theorem ref17_parser_primary_c0_eq {K : AK} {env : Env} {H : AHeap} : aw PP ref17_parser_primary_c0 K env H = awOps PP [⟨some 2, none, .alloc (.struct [.int (.i64) 0, .str [], .nils]) 47⟩] (regK K []) (panK K) env H := aw_reg _ _
def ref17_parser_primary_c1 : AC := .reg [⟨some 4, none, .mov (.t 0)⟩, ⟨some 5, none, .call (.c (.fn (.func 28) [] [])) [.t 4, .c (.str [40])]⟩, ⟨some 6, none, .not (.t 5)⟩] [4, 5]
@[simp] theorem ref17_parser_primary_c1_eq {K : AK} {env : Env} {H : AHeap} : aw PP ref17_parser_primary_c1 K env H = awOps PP [⟨some 4, none, .mov (.t 0)⟩, ⟨some 5, none, .call (.c (.fn (.func 28) [] [])) [.t 4, .c (.str [40])]⟩, ⟨some 6, none, .not (.t 5)⟩] (regK K [4, 5]) (panK K) env H := aw_reg _ _
def ref17_parser_primary_c2 : AC := .reg [⟨some 7, none, .mov (.t 0)⟩, ⟨some 8, none, .call (.c (.fn (.func 27) [] [])) [.t 7]⟩, ⟨some 9, none, .build [.int (.i64) 0, .str [], .nils] [(0, .c (.int (.i64) 1)), (1, .t 8)]⟩, ⟨none, none, .st 3 (.t 2) (.t 9)⟩] [0, 6, 7, 8, 9]
@[simp] theorem ref17_parser_primary_c2_eq {K : AK} {env : Env} {H : AHeap} : aw PP ref17_parser_primary_c2 K env H = awOps PP [⟨some 7, none, .mov (.t 0)⟩, ⟨some 8, none, .call (.c (.fn (.func 27) [] [])) [.t 7]⟩, ⟨some 9, none, .build [.int (.i64) 0, .str [], .nils] [(0, .c (.int (.i64) 1)), (1, .t 8)]⟩, ⟨none, none, .st 3 (.t 2) (.t 9)⟩] (regK K [0, 6, 7, 8, 9]) (panK K) env H := aw_reg _ _
def ref17_parser_primary_c3 : AC := .seq ref17_parser_primary_c2 .ret
@[simp] theorem ref17_parser_primary_c3_eq {K : AK} {env : Env} {H : AHeap} : aw PP ref17_parser_primary_c3 K env H = aw PP ref17_parser_primary_c2 (seqK PP .ret K) env H := aw_seq ref17_parser_primary_c2 .ret
def ref17_parser_primary_c4 : AC := .cond (.t 6) ref17_parser_primary_c3 .skip
@[simp] theorem ref17_parser_primary_c4_eq {K : AK} {env : Env} {H : AHeap} : aw PP ref17_parser_primary_c4 K env H = condQ PP (Opd.ev env (.t 6)) ref17_parser_primary_c3 .skip K env H := aw_cond _ ref17_parser_primary_c3 .skip
def ref17_parser_primary_c5 : AC := .seq ref17_parser_primary_c1 ref17_parser_primary_c4
@[simp] theorem ref17_parser_primary_c5_eq {K : AK} {env : Env} {H : AHeap} : aw PP ref17_parser_primary_c5 K env H = aw PP ref17_parser_primary_c1 (seqK PP ref17_parser_primary_c4 K) env H := aw_seq ref17_parser_primary_c1 ref17_parser_primary_c4
def ref17_parser_primary_c6 : AC := .reg [⟨some 10, none, .mov (.t 0)⟩, ⟨some 11, none, .call (.c (.fn (.func 25) [] [])) [.t 10]⟩] [6, 10, 11]
@[simp] theorem ref17_parser_primary_c6_eq {K : AK} {env : Env} {H : AHeap} : aw PP ref17_parser_primary_c6 K env H = awOps PP [⟨some 10, none, .mov (.t 0)⟩, ⟨some 11, none, .call (.c (.fn (.func 25) [] [])) [.t 10]⟩] (regK K [6, 10, 11]) (panK K) env H := aw_reg _ _
def ref17_parser_primary_c7 : AC := .reg [⟨some 12, none, .mov (.t 0)⟩, ⟨some 13, none, .call (.c (.fn (.func 76) [] [])) [.t 12]⟩, ⟨some 14, none, .bsl true 47 3 1 (.struct [.int (.i64) 0, .str [], .nils]) [(0, .t 13)]⟩, ⟨some 3, none, .mov (.t 14)⟩] [12, 13, 14]
@[simp] theorem ref17_parser_primary_c7_eq {K : AK} {env : Env} {H : AHeap} : aw PP ref17_parser_primary_c7 K env H = awOps PP [⟨some 12, none, .mov (.t 0)⟩, ⟨some 13, none, .call (.c (.fn (.func 76) [] [])) [.t 12]⟩, ⟨some 14, none, .bsl true 47 3 1 (.struct [.int (.i64) 0, .str [], .nils]) [(0, .t 13)]⟩, ⟨some 3, none, .mov (.t 14)⟩] (regK K [12, 13, 14]) (panK K) env H := aw_reg _ _
def ref17_parser_primary_c8 : AC := .reg [⟨some 15, none, .mov (.t 0)⟩, ⟨some 16, none, .call (.c (.fn (.func 28) [] [])) [.t 15, .c (.str [124])]⟩] [15]
@[simp] theorem ref17_parser_primary_c8_eq {K : AK} {env : Env} {H : AHeap} : aw PP ref17_parser_primary_c8 K env H = awOps PP [⟨some 15, none, .mov (.t 0)⟩, ⟨some 16, none, .call (.c (.fn (.func 28) [] [])) [.t 15, .c (.str [124])]⟩] (regK K [15]) (panK K) env H := aw_reg _ _
def ref17_parser_primary_c9 : AC := .cond (.t 16) .skip (.exit 0)
@[simp] theorem ref17_parser_primary_c9_eq {K : AK} {env : Env} {H : AHeap} : aw PP ref17_parser_primary_c9 K env H = condQ PP (Opd.ev env (.t 16)) .skip (.exit 0) K env H := aw_cond _ .skip (.exit 0)
def ref17_parser_primary_c10 : AC := .seq ref17_parser_primary_c8 ref17_parser_primary_c9
@[simp] theorem ref17_parser_primary_c10_eq {K : AK} {env : Env} {H : AHeap} : aw PP ref17_parser_primary_c10 K env H = aw PP ref17_parser_primary_c8 (seqK PP ref17_parser_primary_c9 K) env H := aw_seq ref17_parser_primary_c8 ref17_parser_primary_c9
def ref17_parser_primary_c11 : AC := .reg [⟨some 17, none, .mov (.t 0)⟩, ⟨some 18, none, .call (.c (.fn (.func 25) [] [])) [.t 17]⟩] [16, 17, 18]
@[simp] theorem ref17_parser_primary_c11_eq {K : AK} {env : Env} {H : AHeap} : aw PP ref17_parser_primary_c11 K env H = awOps PP [⟨some 17, none, .mov (.t 0)⟩, ⟨some 18, none, .call (.c (.fn (.func 25) [] [])) [.t 17]⟩] (regK K [16, 17, 18]) (panK K) env H := aw_reg _ _
def ref17_parser_primary_c12 : AC := .reg [⟨some 19, none, .mov (.t 3)⟩, ⟨some 20, none, .mov (.t 0)⟩, ⟨some 21, none, .call (.c (.fn (.func 76) [] [])) [.t 20]⟩, ⟨some 22, none, .bsl false 47 3 1 (.struct [.int (.i64) 0, .str [], .nils]) [(0, .t 21)]⟩, ⟨some 23, none, .app 47 3 48 (.t 19) (.t 22)⟩, ⟨some 3, none, .mov (.t 23)⟩] [19, 20, 21, 22, 23]
@[simp] theorem ref17_parser_primary_c12_eq {K : AK} {env : Env} {H : AHeap} : aw PP ref17_parser_primary_c12 K env H = awOps PP [⟨some 19, none, .mov (.t 3)⟩, ⟨some 20, none, .mov (.t 0)⟩, ⟨some 21, none, .call (.c (.fn (.func 76) [] [])) [.t 20]⟩, ⟨some 22, none, .bsl false 47 3 1 (.struct [.int (.i64) 0, .str [], .nils]) [(0, .t 21)]⟩, ⟨some 23, none, .app 47 3 48 (.t 19) (.t 22)⟩, ⟨some 3, none, .mov (.t 23)⟩] (regK K [19, 20, 21, 22, 23]) (panK K) env H := aw_reg _ _
def ref17_parser_primary_c13 : AC := .seq ref17_parser_primary_c11 ref17_parser_primary_c12
@[simp] theorem ref17_parser_primary_c13_eq {K : AK} {env : Env} {H : AHeap} : aw PP ref17_parser_primary_c13 K env H = aw PP ref17_parser_primary_c11 (seqK PP ref17_parser_primary_c12 K) env H := aw_seq ref17_parser_primary_c11 ref17_parser_primary_c12
def ref17_parser_primary_c14 : AC := .block 1 ref17_parser_primary_c13
@[simp] theorem ref17_parser_primary_c14_eq {K : AK} {env : Env} {H : AHeap} : aw PP ref17_parser_primary_c14 K env H = aw PP ref17_parser_primary_c13 (blockK 1 K) env H := aw_block _ ref17_parser_primary_c13
def ref17_parser_primary_c15 : AC := .seq ref17_parser_primary_c10 ref17_parser_primary_c14
@[simp] theorem ref17_parser_primary_c15_eq {K : AK} {env : Env} {H : AHeap} : aw PP ref17_parser_primary_c15 K env H = aw PP ref17_parser_primary_c10 (seqK PP ref17_parser_primary_c14 K) env H := aw_seq ref17_parser_primary_c10 ref17_parser_primary_c14
def ref17_parser_primary_c16 : AC := .loop ref17_parser_primary_c15
def ref17_parser_primary_c17 : AC := .block 0 ref17_parser_primary_c16
@[simp] theorem ref17_parser_primary_c17_eq {K : AK} {env : Env} {H : AHeap} : aw PP ref17_parser_primary_c17 K env H = aw PP ref17_parser_primary_c16 (blockK 0 K) env H := aw_block _ ref17_parser_primary_c16
def ref17_parser_primary_c18 : AC := .reg [⟨some 24, none, .mov (.t 0)⟩, ⟨some 25, none, .call (.c (.fn (.func 26) [] [])) [.t 24, .c (.str [41])]⟩] [0, 16, 24, 25]
@[simp] theorem ref17_parser_primary_c18_eq {K : AK} {env : Env} {H : AHeap} : aw PP ref17_parser_primary_c18 K env H = awOps PP [⟨some 24, none, .mov (.t 0)⟩, ⟨some 25, none, .call (.c (.fn (.func 26) [] [])) [.t 24, .c (.str [41])]⟩] (regK K [0, 16, 24, 25]) (panK K) env H := aw_reg _ _
def ref17_parser_primary_c19 : AC := .reg [⟨some 26, none, .mov (.t 3)⟩, ⟨some 27, none, .lenl (.t 26)⟩, ⟨some 28, none, .bin (.eql) (.t 27) (.c (.int (.i64) 1))⟩] [26, 27]
@[simp] theorem ref17_parser_primary_c19_eq {K : AK} {env : Env} {H : AHeap} : aw PP ref17_parser_primary_c19 K env H = awOps PP [⟨some 26, none, .mov (.t 3)⟩, ⟨some 27, none, .lenl (.t 26)⟩, ⟨some 28, none, .bin (.eql) (.t 27) (.c (.int (.i64) 1))⟩] (regK K [26, 27]) (panK K) env H := aw_reg _ _
def ref17_parser_primary_c20 : AC := .reg [⟨some 29, none, .mov (.t 3)⟩, ⟨some 30, none, .ixa 3 (.t 29) (.c (.int (.i64) 0))⟩, ⟨some 31, none, .ld true 3 (.t 30)⟩, ⟨none, none, .st 3 (.t 2) (.t 31)⟩] [3, 28, 29, 30, 31]
@[simp] theorem ref17_parser_primary_c20_eq {K : AK} {env : Env} {H : AHeap} : aw PP ref17_parser_primary_c20 K env H = awOps PP [⟨some 29, none, .mov (.t 3)⟩, ⟨some 30, none, .ixa 3 (.t 29) (.c (.int (.i64) 0))⟩, ⟨some 31, none, .ld true 3 (.t 30)⟩, ⟨none, none, .st 3 (.t 2) (.t 31)⟩] (regK K [3, 28, 29, 30, 31]) (panK K) env H := aw_reg _ _
def ref17_parser_primary_c21 : AC := .seq ref17_parser_primary_c20 .ret
@[simp] theorem ref17_parser_primary_c21_eq {K : AK} {env : Env} {H : AHeap} : aw PP ref17_parser_primary_c21 K env H = aw PP ref17_parser_primary_c20 (seqK PP .ret K) env H := aw_seq ref17_parser_primary_c20 .ret
def ref17_parser_primary_c22 : AC := .cond (.t 28) ref17_parser_primary_c21 .skip
@[simp] theorem ref17_parser_primary_c22_eq {K : AK} {env : Env} {H : AHeap} : aw PP ref17_parser_primary_c22 K env H = condQ PP (Opd.ev env (.t 28)) ref17_parser_primary_c21 .skip K env H := aw_cond _ ref17_parser_primary_c21 .skip
def ref17_parser_primary_c23 : AC := .seq ref17_parser_primary_c19 ref17_parser_primary_c22
@[simp] theorem ref17_parser_primary_c23_eq {K : AK} {env : Env} {H : AHeap} : aw PP ref17_parser_primary_c23 K env H = aw PP ref17_parser_primary_c19 (seqK PP ref17_parser_primary_c22 K) env H := aw_seq ref17_parser_primary_c19 ref17_parser_primary_c22
def ref17_parser_primary_c24 : AC := .reg [⟨some 32, none, .mov (.t 3)⟩, ⟨some 33, none, .build [.int (.i64) 0, .str [], .nils] [(0, .c (.int (.i64) 3)), (2, .t 32)]⟩, ⟨none, none, .st 3 (.t 2) (.t 33)⟩] [3, 28, 32, 33]
@[simp] theorem ref17_parser_primary_c24_eq {K : AK} {env : Env} {H : AHeap} : aw PP ref17_parser_primary_c24 K env H = awOps PP [⟨some 32, none, .mov (.t 3)⟩, ⟨some 33, none, .build [.int (.i64) 0, .str [], .nils] [(0, .c (.int (.i64) 3)), (2, .t 32)]⟩, ⟨none, none, .st 3 (.t 2) (.t 33)⟩] (regK K [3, 28, 32, 33]) (panK K) env H := aw_reg _ _
def ref17_parser_primary_c25 : AC := .seq ref17_parser_primary_c24 .ret
@[simp] theorem ref17_parser_primary_c25_eq {K : AK} {env : Env} {H : AHeap} : aw PP ref17_parser_primary_c25 K env H = aw PP ref17_parser_primary_c24 (seqK PP .ret K) env H := aw_seq ref17_parser_primary_c24 .ret
def ref17_parser_primary_c26 : AC := .seq ref17_parser_primary_c23 ref17_parser_primary_c25
@[simp] theorem ref17_parser_primary_c26_eq {K : AK} {env : Env} {H : AHeap} : aw PP ref17_parser_primary_c26 K env H = aw PP ref17_parser_primary_c23 (seqK PP ref17_parser_primary_c25 K) env H := aw_seq ref17_parser_primary_c23 ref17_parser_primary_c25
def ref17_parser_primary_c27 : AC := .seq ref17_parser_primary_c18 ref17_parser_primary_c26
@[simp] theorem ref17_parser_primary_c27_eq {K : AK} {env : Env} {H : AHeap} : aw PP ref17_parser_primary_c27 K env H = aw PP ref17_parser_primary_c18 (seqK PP ref17_parser_primary_c26 K) env H := aw_seq ref17_parser_primary_c18 ref17_parser_primary_c26
def ref17_parser_primary_c28 : AC := .seq ref17_parser_primary_c17 ref17_parser_primary_c27
@[simp] theorem ref17_parser_primary_c28_eq {K : AK} {env : Env} {H : AHeap} : aw PP ref17_parser_primary_c28 K env H = aw PP ref17_parser_primary_c17 (seqK PP ref17_parser_primary_c27 K) env H := aw_seq ref17_parser_primary_c17 ref17_parser_primary_c27
def ref17_parser_primary_c29 : AC := .seq ref17_parser_primary_c7 ref17_parser_primary_c28
@[simp] theorem ref17_parser_primary_c29_eq {K : AK} {env : Env} {H : AHeap} : aw PP ref17_parser_primary_c29 K env H = aw PP ref17_parser_primary_c7 (seqK PP ref17_parser_primary_c28 K) env H := aw_seq ref17_parser_primary_c7 ref17_parser_primary_c28
def ref17_parser_primary_c30 : AC := .seq ref17_parser_primary_c6 ref17_parser_primary_c29
@[simp] theorem ref17_parser_primary_c30_eq {K : AK} {env : Env} {H : AHeap} : aw PP ref17_parser_primary_c30 K env H = aw PP ref17_parser_primary_c6 (seqK PP ref17_parser_primary_c29 K) env H := aw_seq ref17_parser_primary_c6 ref17_parser_primary_c29
def ref17_parser_primary_c31 : AC := .seq ref17_parser_primary_c5 ref17_parser_primary_c30
@[simp] theorem ref17_parser_primary_c31_eq {K : AK} {env : Env} {H : AHeap} : aw PP ref17_parser_primary_c31 K env H = aw PP ref17_parser_primary_c5 (seqK PP ref17_parser_primary_c30 K) env H := aw_seq ref17_parser_primary_c5 ref17_parser_primary_c30
def ref17_parser_primary_c32 : AC := .seq ref17_parser_primary_c0 ref17_parser_primary_c31
@[simp] theorem ref17_parser_primary_c32_eq {K : AK} {env : Env} {H : AHeap} : aw PP ref17_parser_primary_c32 K env H = aw PP ref17_parser_primary_c0 (seqK PP ref17_parser_primary_c31 K) env H := aw_seq ref17_parser_primary_c0 ref17_parser_primary_c31
def ref17_parser_primary_ac : AC := ref17_parser_primary_c32
@[simp] theorem ref17_parser_primary_ac_eq {K : AK} {env : Env} {H : AHeap} : aw PP ref17_parser_primary_ac K env H = aw PP ref17_parser_primary_c32 K env H := Eq.trans rfl rfl
def ref17_parser_primary_rs : List ARV := [.cell 2 true 3]
abbrev ref17_parser_primary_id : Nat := 87
theorem ref17_parser_primary_comp : compF PP ref17_parser_primary_kl ref17_parser_primary_ow 1 Try.f87 = some (ref17_parser_primary_ac, ref17_parser_primary_rs) := by kernel_rfl
theorem ref17_parser_primary_enter {args : List AV} {H : AHeap} {post : ARes → AHeap → Prop} (ha : args.length = 1) (h : aw PP ref17_parser_primary_ac (retK ref17_parser_primary_rs post) (argEnv 0 args) H) : ACalls PP ref17_parser_primary_id args H post := .enterF Try.func87 PP_mix ref17_parser_primary_comp ha h

end Go.Av
