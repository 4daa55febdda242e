/- Functions of the given program, compiled to the own form by program. -/
import Derived.Test.YtidbbhdejopdgaaProg
import Derived.KernelRfl
import Derived.Test.YtidbbhdejopdgaaAvF
import Derived.Test.YtidbbhdejopdgaaFns1
set_option linter.unusedVariables false
set_option linter.unusedSimpArgs false
namespace Go.Av
open Go Go.Proofs
/-! (*emendate.emendateref17.parser).isName -/
def ref17_parser_isName_kl : Nat → List Nat
  | 0 => [2]
  | 1 => [4, 5]
  | 2 => [0, 3, 6, 7, 8, 9, 10, 11, 12, 13, 14, 15, 16, 17, 18, 19, 20, 21, 22, 23, 24, 25, 26, 27, 28, 29, 30, 31, 32, 33, 34, 35, 36, 37, 38, 39]
  | _ => []
def ref17_parser_isName_ow : Nat → Nat → Bool := fun _ _ => false
def ref17_parser_isName_c0 : AC := .reg [⟨some 2, none, .mov (.c (.bool false))⟩] [2]
@[simp] theorem ref17_parser_isName_c0_eq {K : AK} {env : Env} {H : AHeap} : aw PP ref17_parser_isName_c0 K env H = awOps PP [⟨some 2, none, .mov (.c (.bool false))⟩] (regK K [2]) (panK K) env H := aw_reg _ _
def ref17_parser_isName_c1 : AC := .reg [⟨some 4, none, .mov (.t 0)⟩, ⟨some 5, none, .call (.c (.fn (.func 34) [] [])) [.t 4]⟩, ⟨some 3, none, .mov (.t 5)⟩] [4, 5]
@[simp] theorem ref17_parser_isName_c1_eq {K : AK} {env : Env} {H : AHeap} : aw PP ref17_parser_isName_c1 K env H = awOps PP [⟨some 4, none, .mov (.t 0)⟩, ⟨some 5, none, .call (.c (.fn (.func 34) [] [])) [.t 4]⟩, ⟨some 3, none, .mov (.t 5)⟩] (regK K [4, 5]) (panK K) env H := aw_reg _ _
def ref17_parser_isName_c2 : AC := .reg [⟨some 6, none, .mov (.t 0)⟩, ⟨some 7, none, .nilc (.t 6)⟩, ⟨some 8, none, .fa 3 3 (.t 7)⟩, ⟨some 9, none, .ld false 1 (.t 8)⟩, ⟨some 10, none, .not (.t 9)⟩, ⟨some 11, none, .mov (.t 10)⟩, ⟨some 12, some (11, true), .mov (.t 3)⟩, ⟨some 13, some (11, true), .bin (.neq) (.t 12) (.c (.str []))⟩, ⟨some 14, none, .pick (.t 11) (.t 13) (.c (.bool false))⟩, ⟨some 15, none, .mov (.t 14)⟩, ⟨some 16, some (15, true), .mov (.t 3)⟩, ⟨some 17, some (15, true), .ix (.t 16) (.c (.int (.i64) 0))⟩, ⟨some 18, some (15, true), .call (.c (.fn (.func 63) [] [])) [.t 17]⟩, ⟨some 19, none, .pick (.t 15) (.t 18) (.c (.bool false))⟩, ⟨some 20, none, .mov (.t 19)⟩, ⟨some 21, some (20, true), .mov (.t 3)⟩, ⟨some 22, some (20, true), .bin (.neq) (.t 21) (.c (.str [115, 116, 97, 114, 116]))⟩, ⟨some 23, none, .pick (.t 20) (.t 22) (.c (.bool false))⟩, ⟨some 24, none, .mov (.t 23)⟩, ⟨some 25, some (24, true), .mov (.t 3)⟩, ⟨some 26, some (24, true), .bin (.neq) (.t 25) (.c (.str [108, 101, 102, 116]))⟩, ⟨some 27, none, .pick (.t 24) (.t 26) (.c (.bool false))⟩, ⟨some 28, none, .mov (.t 27)⟩, ⟨some 29, some (28, true), .mov (.t 3)⟩, ⟨some 30, some (28, true), .bin (.neq) (.t 29) (.c (.str [114, 105, 103, 104, 116]))⟩, ⟨some 31, none, .pick (.t 28) (.t 30) (.c (.bool false))⟩, ⟨some 32, none, .mov (.t 31)⟩, ⟨some 33, some (32, true), .mov (.t 3)⟩, ⟨some 34, some (32, true), .bin (.neq) (.t 33) (.c (.str [110, 111, 110, 101]))⟩, ⟨some 35, none, .pick (.t 32) (.t 34) (.c (.bool false))⟩, ⟨some 36, none, .mov (.t 35)⟩, ⟨some 37, some (36, true), .mov (.t 3)⟩, ⟨some 38, some (36, true), .bin (.neq) (.t 37) (.c (.str [112, 114, 105, 99, 101]))⟩, ⟨some 39, none, .pick (.t 36) (.t 38) (.c (.bool false))⟩, ⟨some 2, none, .mov (.t 39)⟩] [0, 3, 6, 7, 8, 9, 10, 11, 12, 13, 14, 15, 16, 17, 18, 19, 20, 21, 22, 23, 24, 25, 26, 27, 28, 29, 30, 31, 32, 33, 34, 35, 36, 37, 38, 39]
@[simp] theorem ref17_parser_isName_c2_eq {K : AK} {env : Env} {H : AHeap} : aw PP ref17_parser_isName_c2 K env H = awOps PP [⟨some 6, none, .mov (.t 0)⟩, ⟨some 7, none, .nilc (.t 6)⟩, ⟨some 8, none, .fa 3 3 (.t 7)⟩, ⟨some 9, none, .ld false 1 (.t 8)⟩, ⟨some 10, none, .not (.t 9)⟩, ⟨some 11, none, .mov (.t 10)⟩, ⟨some 12, some (11, true), .mov (.t 3)⟩, ⟨some 13, some (11, true), .bin (.neq) (.t 12) (.c (.str []))⟩, ⟨some 14, none, .pick (.t 11) (.t 13) (.c (.bool false))⟩, ⟨some 15, none, .mov (.t 14)⟩, ⟨some 16, some (15, true), .mov (.t 3)⟩, ⟨some 17, some (15, true), .ix (.t 16) (.c (.int (.i64) 0))⟩, ⟨some 18, some (15, true), .call (.c (.fn (.func 63) [] [])) [.t 17]⟩, ⟨some 19, none, .pick (.t 15) (.t 18) (.c (.bool false))⟩, ⟨some 20, none, .mov (.t 19)⟩, ⟨some 21, some (20, true), .mov (.t 3)⟩, ⟨some 22, some (20, true), .bin (.neq) (.t 21) (.c (.str [115, 116, 97, 114, 116]))⟩, ⟨some 23, none, .pick (.t 20) (.t 22) (.c (.bool false))⟩, ⟨some 24, none, .mov (.t 23)⟩, ⟨some 25, some (24, true), .mov (.t 3)⟩, ⟨some 26, some (24, true), .bin (.neq) (.t 25) (.c (.str [108, 101, 102, 116]))⟩, ⟨some 27, none, .pick (.t 24) (.t 26) (.c (.bool false))⟩, ⟨some 28, none, .mov (.t 27)⟩, ⟨some 29, some (28, true), .mov (.t 3)⟩, ⟨some 30, some (28, true), .bin (.neq) (.t 29) (.c (.str [114, 105, 103, 104, 116]))⟩, ⟨some 31, none, .pick (.t 28) (.t 30) (.c (.bool false))⟩, ⟨some 32, none, .mov (.t 31)⟩, ⟨some 33, some (32, true), .mov (.t 3)⟩, ⟨some 34, some (32, true), .bin (.neq) (.t 33) (.c (.str [110, 111, 110, 101]))⟩, ⟨some 35, none, .pick (.t 32) (.t 34) (.c (.bool false))⟩, ⟨some 36, none, .mov (.t 35)⟩, ⟨some 37, some (36, true), .mov (.t 3)⟩, ⟨some 38, some (36, true), .bin (.neq) (.t 37) (.c (.str [112, 114, 105, 99, 101]))⟩, ⟨some 39, none, .pick (.t 36) (.t 38) (.c (.bool false))⟩, ⟨some 2, none, .mov (.t 39)⟩] (regK K [0, 3, 6, 7, 8, 9, 10, 11, 12, 13, 14, 15, 16, 17, 18, 19, 20, 21, 22, 23, 24, 25, 26, 27, 28, 29, 30, 31, 32, 33, 34, 35, 36, 37, 38, 39]) (panK K) env H := aw_reg _ _
def ref17_parser_isName_c3 : AC := .seq ref17_parser_isName_c2 .ret
@[simp] theorem ref17_parser_isName_c3_eq {K : AK} {env : Env} {H : AHeap} : aw PP ref17_parser_isName_c3 K env H = aw PP ref17_parser_isName_c2 (seqK PP .ret K) env H := aw_seq ref17_parser_isName_c2 .ret
def ref17_parser_isName_c4 : AC := .seq ref17_parser_isName_c1 ref17_parser_isName_c3
@[simp] theorem ref17_parser_isName_c4_eq {K : AK} {env : Env} {H : AHeap} : aw PP ref17_parser_isName_c4 K env H = aw PP ref17_parser_isName_c1 (seqK PP ref17_parser_isName_c3 K) env H := aw_seq ref17_parser_isName_c1 ref17_parser_isName_c3
def ref17_parser_isName_c5 : AC := .seq ref17_parser_isName_c0 ref17_parser_isName_c4
@[simp] theorem ref17_parser_isName_c5_eq {K : AK} {env : Env} {H : AHeap} : aw PP ref17_parser_isName_c5 K env H = aw PP ref17_parser_isName_c0 (seqK PP ref17_parser_isName_c4 K) env H := aw_seq ref17_parser_isName_c0 ref17_parser_isName_c4
def ref17_parser_isName_ac : AC := ref17_parser_isName_c5
@[simp] theorem ref17_parser_isName_ac_eq {K : AK} {env : Env} {H : AHeap} : aw PP ref17_parser_isName_ac K env H = aw PP ref17_parser_isName_c5 K env H := Eq.trans rfl rfl
def ref17_parser_isName_rs : List ARV := [.tmp 2]
abbrev ref17_parser_isName_id : Nat := 30
theorem ref17_parser_isName_comp : compF PP ref17_parser_isName_kl ref17_parser_isName_ow 1 Try.f30 = some (ref17_parser_isName_ac, ref17_parser_isName_rs) := by kernel_rfl
theorem ref17_parser_isName_enter {args : List AV} {H : AHeap} {post : ARes → AHeap → Prop} (ha : args.length = 1) (h : aw PP ref17_parser_isName_ac (retK ref17_parser_isName_rs post) (argEnv 0 args) H) : ACalls PP ref17_parser_isName_id args H post := .enterF Try.func30 PP_mix ref17_parser_isName_comp ha h

/-! (*emendate.emendateref17.parser).rule -/
def ref17_parser_rule_kl : Nat → List Nat
  | 1 => [5, 6, 7]
  | 2 => [8, 9]
  | 3 => [10, 11, 12]
  | 4 => [13]
  | 5 => [14, 15, 16]
  | 6 => [17, 18, 19, 20, 21]
  | 7 => [0, 14, 22, 23]
  | 8 => [4, 24, 25]
  | 9 => [3, 26]
  | _ => []
def ref17_parser_rule_ow : Nat → Nat → Bool := fun a b => (a == 3 && b == 2)
def ref17_parser_rule_c0 : AC := .reg [⟨some 2, none, .alloc (.struct [.str [], .nils]) 44⟩] []
@[simp] theorem ref17_parser_rule_c0_eq {K : AK} {env : Env} {H : AHeap} : aw PP ref17_parser_rule_c0 K env H = awOps PP [⟨some 2, none, .alloc (.struct [.str [], .nils]) 44⟩] (regK K []) (panK K) env H := aw_reg _ _
def ref17_parser_rule_c1 : AC := .reg [⟨some 5, none, .mov (.t 0)⟩, ⟨some 6, none, .call (.c (.fn (.func 27) [] [])) [.t 5]⟩, ⟨some 7, none, .build [.str [], .nils] [(0, .t 6)]⟩, ⟨some 3, none, .alloc (.struct [.str [], .nils]) 44⟩, ⟨none, none, .st 2 (.t 3) (.t 7)⟩] [5, 6, 7]
@[simp] theorem ref17_parser_rule_c1_eq {K : AK} {env : Env} {H : AHeap} : aw PP ref17_parser_rule_c1 K env H = awOps PP [⟨some 5, none, .mov (.t 0)⟩, ⟨some 6, none, .call (.c (.fn (.func 27) [] [])) [.t 5]⟩, ⟨some 7, none, .build [.str [], .nils] [(0, .t 6)]⟩, ⟨some 3, none, .alloc (.struct [.str [], .nils]) 44⟩, ⟨none, none, .st 2 (.t 3) (.t 7)⟩] (regK K [5, 6, 7]) (panK K) env H := aw_reg _ _
def ref17_parser_rule_c2 : AC := .reg [⟨some 8, none, .mov (.t 0)⟩, ⟨some 9, none, .call (.c (.fn (.func 26) [] [])) [.t 8, .c (.str [61])]⟩] [8, 9]
@[simp] theorem ref17_parser_rule_c2_eq {K : AK} {env : Env} {H : AHeap} : aw PP ref17_parser_rule_c2 K env H = awOps PP [⟨some 8, none, .mov (.t 0)⟩, ⟨some 9, none, .call (.c (.fn (.func 26) [] [])) [.t 8, .c (.str [61])]⟩] (regK K [8, 9]) (panK K) env H := aw_reg _ _
def ref17_parser_rule_c3 : AC := .reg [⟨some 10, none, .mov (.t 0)⟩, ⟨some 11, none, .call (.c (.fn (.func 65) [] [])) [.t 10]⟩, ⟨some 12, none, .bsl true 49 4 1 (.struct [.struct [.int (.i64) 0, .str [], .nils], .int (.i64) 0]) [(0, .t 11)]⟩, ⟨some 4, none, .mov (.t 12)⟩] [10, 11, 12]
@[simp] theorem ref17_parser_rule_c3_eq {K : AK} {env : Env} {H : AHeap} : aw PP ref17_parser_rule_c3 K env H = awOps PP [⟨some 10, none, .mov (.t 0)⟩, ⟨some 11, none, .call (.c (.fn (.func 65) [] [])) [.t 10]⟩, ⟨some 12, none, .bsl true 49 4 1 (.struct [.struct [.int (.i64) 0, .str [], .nils], .int (.i64) 0]) [(0, .t 11)]⟩, ⟨some 4, none, .mov (.t 12)⟩] (regK K [10, 11, 12]) (panK K) env H := aw_reg _ _
def ref17_parser_rule_c4 : AC := .reg [⟨some 13, none, .mov (.t 0)⟩, ⟨some 14, none, .call (.c (.fn (.func 28) [] [])) [.t 13, .c (.str [124])]⟩] [13]
@[simp] theorem ref17_parser_rule_c4_eq {K : AK} {env : Env} {H : AHeap} : aw PP ref17_parser_rule_c4 K env H = awOps PP [⟨some 13, none, .mov (.t 0)⟩, ⟨some 14, none, .call (.c (.fn (.func 28) [] [])) [.t 13, .c (.str [124])]⟩] (regK K [13]) (panK K) env H := aw_reg _ _
def ref17_parser_rule_c5 : AC := .cond (.t 14) .skip (.exit 0)
@[simp] theorem ref17_parser_rule_c5_eq {K : AK} {env : Env} {H : AHeap} : aw PP ref17_parser_rule_c5 K env H = condQ PP (Opd.ev env (.t 14)) .skip (.exit 0) K env H := aw_cond _ .skip (.exit 0)
def ref17_parser_rule_c6 : AC := .seq ref17_parser_rule_c4 ref17_parser_rule_c5
@[simp] theorem ref17_parser_rule_c6_eq {K : AK} {env : Env} {H : AHeap} : aw PP ref17_parser_rule_c6 K env H = aw PP ref17_parser_rule_c4 (seqK PP ref17_parser_rule_c5 K) env H := aw_seq ref17_parser_rule_c4 ref17_parser_rule_c5
def ref17_parser_rule_c7 : AC := .reg [⟨some 15, none, .mov (.t 0)⟩, ⟨some 16, none, .call (.c (.fn (.func 25) [] [])) [.t 15]⟩] [14, 15, 16]
@[simp] theorem ref17_parser_rule_c7_eq {K : AK} {env : Env} {H : AHeap} : aw PP ref17_parser_rule_c7 K env H = awOps PP [⟨some 15, none, .mov (.t 0)⟩, ⟨some 16, none, .call (.c (.fn (.func 25) [] [])) [.t 15]⟩] (regK K [14, 15, 16]) (panK K) env H := aw_reg _ _
def ref17_parser_rule_c8 : AC := .reg [⟨some 17, none, .mov (.t 4)⟩, ⟨some 18, none, .mov (.t 0)⟩, ⟨some 19, none, .call (.c (.fn (.func 65) [] [])) [.t 18]⟩, ⟨some 20, none, .bsl false 49 4 1 (.struct [.struct [.int (.i64) 0, .str [], .nils], .int (.i64) 0]) [(0, .t 19)]⟩, ⟨some 21, none, .app 49 4 56 (.t 17) (.t 20)⟩, ⟨some 4, none, .mov (.t 21)⟩] [17, 18, 19, 20, 21]
@[simp] theorem ref17_parser_rule_c8_eq {K : AK} {env : Env} {H : AHeap} : aw PP ref17_parser_rule_c8 K env H = awOps PP [⟨some 17, none, .mov (.t 4)⟩, ⟨some 18, none, .mov (.t 0)⟩, ⟨some 19, none, .call (.c (.fn (.func 65) [] [])) [.t 18]⟩, ⟨some 20, none, .bsl false 49 4 1 (.struct [.struct [.int (.i64) 0, .str [], .nils], .int (.i64) 0]) [(0, .t 19)]⟩, ⟨some 21, none, .app 49 4 56 (.t 17) (.t 20)⟩, ⟨some 4, none, .mov (.t 21)⟩] (regK K [17, 18, 19, 20, 21]) (panK K) env H := aw_reg _ _
def ref17_parser_rule_c9 : AC := .seq ref17_parser_rule_c7 ref17_parser_rule_c8
@[simp] theorem ref17_parser_rule_c9_eq {K : AK} {env : Env} {H : AHeap} : aw PP ref17_parser_rule_c9 K env H = aw PP ref17_parser_rule_c7 (seqK PP ref17_parser_rule_c8 K) env H := aw_seq ref17_parser_rule_c7 ref17_parser_rule_c8
def ref17_parser_rule_c10 : AC := .block 1 ref17_parser_rule_c9
@[simp] theorem ref17_parser_rule_c10_eq {K : AK} {env : Env} {H : AHeap} : aw PP ref17_parser_rule_c10 K env H = aw PP ref17_parser_rule_c9 (blockK 1 K) env H := aw_block _ ref17_parser_rule_c9
def ref17_parser_rule_c11 : AC := .seq ref17_parser_rule_c6 ref17_parser_rule_c10
@[simp] theorem ref17_parser_rule_c11_eq {K : AK} {env : Env} {H : AHeap} : aw PP ref17_parser_rule_c11 K env H = aw PP ref17_parser_rule_c6 (seqK PP ref17_parser_rule_c10 K) env H := aw_seq ref17_parser_rule_c6 ref17_parser_rule_c10
def ref17_parser_rule_c12 : AC := .loop ref17_parser_rule_c11
def ref17_parser_rule_c13 : AC := .block 0 ref17_parser_rule_c12
@[simp] theorem ref17_parser_rule_c13_eq {K : AK} {env : Env} {H : AHeap} : aw PP ref17_parser_rule_c13 K env H = aw PP ref17_parser_rule_c12 (blockK 0 K) env H := aw_block _ ref17_parser_rule_c12
def ref17_parser_rule_c14 : AC := .reg [⟨some 22, none, .mov (.t 0)⟩, ⟨some 23, none, .call (.c (.fn (.func 26) [] [])) [.t 22, .c (.str [59])]⟩] [0, 14, 22, 23]
@[simp] theorem ref17_parser_rule_c14_eq {K : AK} {env : Env} {H : AHeap} : aw PP ref17_parser_rule_c14 K env H = awOps PP [⟨some 22, none, .mov (.t 0)⟩, ⟨some 23, none, .call (.c (.fn (.func 26) [] [])) [.t 22, .c (.str [59])]⟩] (regK K [0, 14, 22, 23]) (panK K) env H := aw_reg _ _
def ref17_parser_rule_c15 : AC := .reg [⟨some 24, none, .mov (.t 4)⟩, ⟨some 25, none, .fa 1 1 (.t 3)⟩, ⟨none, none, .st 1 (.t 25) (.t 24)⟩] [4, 24, 25]
@[simp] theorem ref17_parser_rule_c15_eq {K : AK} {env : Env} {H : AHeap} : aw PP ref17_parser_rule_c15 K env H = awOps PP [⟨some 24, none, .mov (.t 4)⟩, ⟨some 25, none, .fa 1 1 (.t 3)⟩, ⟨none, none, .st 1 (.t 25) (.t 24)⟩] (regK K [4, 24, 25]) (panK K) env H := aw_reg _ _
def ref17_parser_rule_c16 : AC := .reg [⟨some 26, none, .ld true 2 (.t 3)⟩, ⟨none, none, .st 2 (.t 2) (.t 26)⟩] [3, 26]
@[simp] theorem ref17_parser_rule_c16_eq {K : AK} {env : Env} {H : AHeap} : aw PP ref17_parser_rule_c16 K env H = awOps PP [⟨some 26, none, .ld true 2 (.t 3)⟩, ⟨none, none, .st 2 (.t 2) (.t 26)⟩] (regK K [3, 26]) (panK K) env H := aw_reg _ _
def ref17_parser_rule_c17 : AC := .seq ref17_parser_rule_c16 .ret
@[simp] theorem ref17_parser_rule_c17_eq {K : AK} {env : Env} {H : AHeap} : aw PP ref17_parser_rule_c17 K env H = aw PP ref17_parser_rule_c16 (seqK PP .ret K) env H := aw_seq ref17_parser_rule_c16 .ret
def ref17_parser_rule_c18 : AC := .seq ref17_parser_rule_c15 ref17_parser_rule_c17
@[simp] theorem ref17_parser_rule_c18_eq {K : AK} {env : Env} {H : AHeap} : aw PP ref17_parser_rule_c18 K env H = aw PP ref17_parser_rule_c15 (seqK PP ref17_parser_rule_c17 K) env H := aw_seq ref17_parser_rule_c15 ref17_parser_rule_c17
def ref17_parser_rule_c19 : AC := .seq ref17_parser_rule_c14 ref17_parser_rule_c18
@[simp] theorem ref17_parser_rule_c19_eq {K : AK} {env : Env} {H : AHeap} : aw PP ref17_parser_rule_c19 K env H = aw PP ref17_parser_rule_c14 (seqK PP ref17_parser_rule_c18 K) env H := aw_seq ref17_parser_rule_c14 ref17_parser_rule_c18
def ref17_parser_rule_c20 : AC := .seq ref17_parser_rule_c13 ref17_parser_rule_c19
@[simp] theorem ref17_parser_rule_c20_eq {K : AK} {env : Env} {H : AHeap} : aw PP ref17_parser_rule_c20 K env H = aw PP ref17_parser_rule_c13 (seqK PP ref17_parser_rule_c19 K) env H := aw_seq ref17_parser_rule_c13 ref17_parser_rule_c19
def ref17_parser_rule_c21 : AC := .seq ref17_parser_rule_c3 ref17_parser_rule_c20
@[simp] theorem ref17_parser_rule_c21_eq {K : AK} {env : Env} {H : AHeap} : aw PP ref17_parser_rule_c21 K env H = aw PP ref17_parser_rule_c3 (seqK PP ref17_parser_rule_c20 K) env H := aw_seq ref17_parser_rule_c3 ref17_parser_rule_c20
def ref17_parser_rule_c22 : AC := .seq ref17_parser_rule_c2 ref17_parser_rule_c21
@[simp] theorem ref17_parser_rule_c22_eq {K : AK} {env : Env} {H : AHeap} : aw PP ref17_parser_rule_c22 K env H = aw PP ref17_parser_rule_c2 (seqK PP ref17_parser_rule_c21 K) env H := aw_seq ref17_parser_rule_c2 ref17_parser_rule_c21
def ref17_parser_rule_c23 : AC := .seq ref17_parser_rule_c1 ref17_parser_rule_c22
@[simp] theorem ref17_parser_rule_c23_eq {K : AK} {env : Env} {H : AHeap} : aw PP ref17_parser_rule_c23 K env H = aw PP ref17_parser_rule_c1 (seqK PP ref17_parser_rule_c22 K) env H := aw_seq ref17_parser_rule_c1 ref17_parser_rule_c22
def ref17_parser_rule_c24 : AC := .seq ref17_parser_rule_c0 ref17_parser_rule_c23
@[simp] theorem ref17_parser_rule_c24_eq {K : AK} {env : Env} {H : AHeap} : aw PP ref17_parser_rule_c24 K env H = aw PP ref17_parser_rule_c0 (seqK PP ref17_parser_rule_c23 K) env H := aw_seq ref17_parser_rule_c0 ref17_parser_rule_c23
def ref17_parser_rule_ac : AC := ref17_parser_rule_c24
@[simp] theorem ref17_parser_rule_ac_eq {K : AK} {env : Env} {H : AHeap} : aw PP ref17_parser_rule_ac K env H = aw PP ref17_parser_rule_c24 K env H := Eq.trans rfl rfl
def ref17_parser_rule_rs : List ARV := [.cell 2 true 2]
abbrev ref17_parser_rule_id : Nat := 31
theorem ref17_parser_rule_comp : compF PP ref17_parser_rule_kl ref17_parser_rule_ow 1 Try.f31 = some (ref17_parser_rule_ac, ref17_parser_rule_rs) := by kernel_rfl
theorem ref17_parser_rule_enter {args : List AV} {H : AHeap} {post : ARes → AHeap → Prop} (ha : args.length = 1) (h : aw PP ref17_parser_rule_ac (retK ref17_parser_rule_rs post) (argEnv 0 args) H) : ACalls PP ref17_parser_rule_id args H post := .enterF Try.func31 PP_mix ref17_parser_rule_comp ha h

/-! emendate.emendateref16.sameLevels -/
def ref16_sameLevels_kl : Nat → List Nat
  | 0 => [4]
  | 1 => [7, 8, 9, 10]
  | 2 => [0, 1, 11]
  | 3 => [11]
  | 4 => [12, 13, 14]
  | 5 => [6, 16, 17, 51]
  | 6 => [15, 18, 19, 20, 21, 22, 23, 24, 25, 26, 27, 28, 29, 30, 31, 32, 33, 34, 35, 36, 37, 38, 39, 40, 41, 42]
  | 7 => [0, 1, 5, 43]
  | 8 => [43]
  | 9 => [44, 45, 46, 47, 48, 49, 50]
  | 10 => [52, 53, 70]
  | 11 => [51, 54, 55, 56, 57, 58, 59, 60, 61, 62, 63, 64, 65, 66, 67, 68, 69]
  | 12 => [0, 1, 5, 6, 70]
  | 13 => [0, 1, 5, 15]
  | _ => []
def ref16_sameLevels_ow : Nat → Nat → Bool := fun _ _ => false
def ref16_sameLevels_c0 : AC := .reg [⟨some 4, none, .mov (.c (.bool false))⟩] [4]
@[simp] theorem ref16_sameLevels_c0_eq {K : AK} {env : Env} {H : AHeap} : aw PP ref16_sameLevels_c0 K env H = awOps PP [⟨some 4, none, .mov (.c (.bool false))⟩] (regK K [4]) (panK K) env H := aw_reg _ _
def ref16_sameLevels_c1 : AC := .reg [⟨some 7, none, .mov (.t 0)⟩, ⟨some 8, none, .lenl (.t 7)⟩, ⟨some 9, none, .mov (.t 1)⟩, ⟨some 10, none, .lenl (.t 9)⟩, ⟨some 11, none, .bin (.neq) (.t 8) (.t 10)⟩] [7, 8, 9, 10]
@[simp] theorem ref16_sameLevels_c1_eq {K : AK} {env : Env} {H : AHeap} : aw PP ref16_sameLevels_c1 K env H = awOps PP [⟨some 7, none, .mov (.t 0)⟩, ⟨some 8, none, .lenl (.t 7)⟩, ⟨some 9, none, .mov (.t 1)⟩, ⟨some 10, none, .lenl (.t 9)⟩, ⟨some 11, none, .bin (.neq) (.t 8) (.t 10)⟩] (regK K [7, 8, 9, 10]) (panK K) env H := aw_reg _ _
def ref16_sameLevels_c2 : AC := .reg [⟨some 4, none, .mov (.c (.bool false))⟩] [0, 1, 11]
@[simp] theorem ref16_sameLevels_c2_eq {K : AK} {env : Env} {H : AHeap} : aw PP ref16_sameLevels_c2 K env H = awOps PP [⟨some 4, none, .mov (.c (.bool false))⟩] (regK K [0, 1, 11]) (panK K) env H := aw_reg _ _
def ref16_sameLevels_c3 : AC := .seq ref16_sameLevels_c2 .ret
@[simp] theorem ref16_sameLevels_c3_eq {K : AK} {env : Env} {H : AHeap} : aw PP ref16_sameLevels_c3 K env H = aw PP ref16_sameLevels_c2 (seqK PP .ret K) env H := aw_seq ref16_sameLevels_c2 .ret
def ref16_sameLevels_c4 : AC := .cond (.t 11) ref16_sameLevels_c3 .skip
@[simp] theorem ref16_sameLevels_c4_eq {K : AK} {env : Env} {H : AHeap} : aw PP ref16_sameLevels_c4 K env H = condQ PP (Opd.ev env (.t 11)) ref16_sameLevels_c3 .skip K env H := aw_cond _ ref16_sameLevels_c3 .skip
def ref16_sameLevels_c5 : AC := .seq ref16_sameLevels_c1 ref16_sameLevels_c4
@[simp] theorem ref16_sameLevels_c5_eq {K : AK} {env : Env} {H : AHeap} : aw PP ref16_sameLevels_c5 K env H = aw PP ref16_sameLevels_c1 (seqK PP ref16_sameLevels_c4 K) env H := aw_seq ref16_sameLevels_c1 ref16_sameLevels_c4
def ref16_sameLevels_c6 : AC := .reg [⟨some 5, none, .mov (.c (.int (.i64) 0))⟩] [11]
@[simp] theorem ref16_sameLevels_c6_eq {K : AK} {env : Env} {H : AHeap} : aw PP ref16_sameLevels_c6 K env H = awOps PP [⟨some 5, none, .mov (.c (.int (.i64) 0))⟩] (regK K [11]) (panK K) env H := aw_reg _ _
def ref16_sameLevels_c7 : AC := .reg [⟨some 12, none, .mov (.t 5)⟩, ⟨some 13, none, .mov (.t 0)⟩, ⟨some 14, none, .lenl (.t 13)⟩, ⟨some 15, none, .bin (.lss) (.t 12) (.t 14)⟩] [12, 13, 14]
@[simp] theorem ref16_sameLevels_c7_eq {K : AK} {env : Env} {H : AHeap} : aw PP ref16_sameLevels_c7 K env H = awOps PP [⟨some 12, none, .mov (.t 5)⟩, ⟨some 13, none, .mov (.t 0)⟩, ⟨some 14, none, .lenl (.t 13)⟩, ⟨some 15, none, .bin (.lss) (.t 12) (.t 14)⟩] (regK K [12, 13, 14]) (panK K) env H := aw_reg _ _
def ref16_sameLevels_c8 : AC := .cond (.t 15) .skip (.exit 0)
@[simp] theorem ref16_sameLevels_c8_eq {K : AK} {env : Env} {H : AHeap} : aw PP ref16_sameLevels_c8 K env H = condQ PP (Opd.ev env (.t 15)) .skip (.exit 0) K env H := aw_cond _ .skip (.exit 0)
def ref16_sameLevels_c9 : AC := .seq ref16_sameLevels_c7 ref16_sameLevels_c8
@[simp] theorem ref16_sameLevels_c9_eq {K : AK} {env : Env} {H : AHeap} : aw PP ref16_sameLevels_c9 K env H = aw PP ref16_sameLevels_c7 (seqK PP ref16_sameLevels_c8 K) env H := aw_seq ref16_sameLevels_c7 ref16_sameLevels_c8
def ref16_sameLevels_c10_ops : List (AI × List Nat) := [(⟨some 18, none, .mov (.t 0)⟩, []), (⟨some 19, none, .mov (.t 5)⟩, []), (⟨some 20, none, .ixa 2 (.t 18) (.t 19)⟩, [0, 1]), (⟨some 21, none, .fa 0 0 (.t 20)⟩, [2]), (⟨some 22, none, .ld false 1 (.t 21)⟩, [3]), (⟨some 23, none, .mov (.t 1)⟩, []), (⟨some 24, none, .mov (.t 5)⟩, []), (⟨some 25, none, .ixa 2 (.t 23) (.t 24)⟩, [5, 6]), (⟨some 26, none, .fa 0 0 (.t 25)⟩, [7]), (⟨some 27, none, .ld false 1 (.t 26)⟩, [8]), (⟨some 28, none, .bin (.neq) (.t 22) (.t 27)⟩, [4, 9]), (⟨some 29, none, .mov (.t 28)⟩, [10]), (⟨some 30, some (29, false), .mov (.t 0)⟩, [11]), (⟨some 31, some (29, false), .mov (.t 5)⟩, [11]), (⟨some 32, some (29, false), .ixa 2 (.t 30) (.t 31)⟩, [12, 13, 11]), (⟨some 33, some (29, false), .fa 1 1 (.t 32)⟩, [14, 11]), (⟨some 34, some (29, false), .ld false 1 (.t 33)⟩, [15, 11]), (⟨some 35, some (29, false), .lenl (.t 34)⟩, [16, 11]), (⟨some 36, some (29, false), .mov (.t 1)⟩, [11]), (⟨some 37, some (29, false), .mov (.t 5)⟩, [11]), (⟨some 38, some (29, false), .ixa 2 (.t 36) (.t 37)⟩, [18, 19, 11]), (⟨some 39, some (29, false), .fa 1 1 (.t 38)⟩, [20, 11]), (⟨some 40, some (29, false), .ld false 1 (.t 39)⟩, [21, 11]), (⟨some 41, some (29, false), .lenl (.t 40)⟩, [22, 11]), (⟨some 42, some (29, false), .bin (.neq) (.t 35) (.t 41)⟩, [17, 23, 11]), (⟨some 43, none, .pick (.t 29) (.c (.bool true)) (.t 42)⟩, [11, 24])]
def ref16_sameLevels_c10 : AC := .dreg ref16_sameLevels_c10_ops [15, 18, 19, 20, 21, 22, 23, 24, 25, 26, 27, 28, 29, 30, 31, 32, 33, 34, 35, 36, 37, 38, 39, 40, 41, 42]
theorem ref16_sameLevels_c10_ok : lexOK ref16_sameLevels_c10_ops (fun i => [].contains i) = true := by kernel_rfl
theorem ref16_sameLevels_c10_lex {K : AK} {env : Env} {H : AHeap} (h : awLex PP (fun i => [].contains i) (regK K [15, 18, 19, 20, 21, 22, 23, 24, 25, 26, 27, 28, 29, 30, 31, 32, 33, 34, 35, 36, 37, 38, 39, 40, 41, 42]) (panK K) [(0, ⟨some 18, none, .mov (.t 0)⟩), (1, ⟨some 19, none, .mov (.t 5)⟩), (2, ⟨some 20, none, .ixa 2 (.t 18) (.t 19)⟩), (3, ⟨some 21, none, .fa 0 0 (.t 20)⟩), (4, ⟨some 22, none, .ld false 1 (.t 21)⟩), (5, ⟨some 23, none, .mov (.t 1)⟩), (6, ⟨some 24, none, .mov (.t 5)⟩), (7, ⟨some 25, none, .ixa 2 (.t 23) (.t 24)⟩), (8, ⟨some 26, none, .fa 0 0 (.t 25)⟩), (9, ⟨some 27, none, .ld false 1 (.t 26)⟩), (10, ⟨some 28, none, .bin (.neq) (.t 22) (.t 27)⟩), (11, ⟨some 29, none, .mov (.t 28)⟩), (12, ⟨some 30, some (29, false), .mov (.t 0)⟩), (13, ⟨some 31, some (29, false), .mov (.t 5)⟩), (14, ⟨some 32, some (29, false), .ixa 2 (.t 30) (.t 31)⟩), (15, ⟨some 33, some (29, false), .fa 1 1 (.t 32)⟩), (16, ⟨some 34, some (29, false), .ld false 1 (.t 33)⟩), (17, ⟨some 35, some (29, false), .lenl (.t 34)⟩), (18, ⟨some 36, some (29, false), .mov (.t 1)⟩), (19, ⟨some 37, some (29, false), .mov (.t 5)⟩), (20, ⟨some 38, some (29, false), .ixa 2 (.t 36) (.t 37)⟩), (21, ⟨some 39, some (29, false), .fa 1 1 (.t 38)⟩), (22, ⟨some 40, some (29, false), .ld false 1 (.t 39)⟩), (23, ⟨some 41, some (29, false), .lenl (.t 40)⟩), (24, ⟨some 42, some (29, false), .bin (.neq) (.t 35) (.t 41)⟩), (25, ⟨some 43, none, .pick (.t 29) (.c (.bool true)) (.t 42)⟩)] env H) : aw PP ref16_sameLevels_c10 K env H := aw_dreg_lex _ ref16_sameLevels_c10_ok h
def ref16_sameLevels_c11 : AC := .reg [⟨some 4, none, .mov (.c (.bool false))⟩] [0, 1, 5, 43]
@[simp] theorem ref16_sameLevels_c11_eq {K : AK} {env : Env} {H : AHeap} : aw PP ref16_sameLevels_c11 K env H = awOps PP [⟨some 4, none, .mov (.c (.bool false))⟩] (regK K [0, 1, 5, 43]) (panK K) env H := aw_reg _ _
def ref16_sameLevels_c12 : AC := .seq ref16_sameLevels_c11 .ret
@[simp] theorem ref16_sameLevels_c12_eq {K : AK} {env : Env} {H : AHeap} : aw PP ref16_sameLevels_c12 K env H = aw PP ref16_sameLevels_c11 (seqK PP .ret K) env H := aw_seq ref16_sameLevels_c11 .ret
def ref16_sameLevels_c13 : AC := .cond (.t 43) ref16_sameLevels_c12 .skip
@[simp] theorem ref16_sameLevels_c13_eq {K : AK} {env : Env} {H : AHeap} : aw PP ref16_sameLevels_c13 K env H = condQ PP (Opd.ev env (.t 43)) ref16_sameLevels_c12 .skip K env H := aw_cond _ ref16_sameLevels_c12 .skip
def ref16_sameLevels_c14 : AC := .seq ref16_sameLevels_c10 ref16_sameLevels_c13
@[simp] theorem ref16_sameLevels_c14_eq {K : AK} {env : Env} {H : AHeap} : aw PP ref16_sameLevels_c14 K env H = aw PP ref16_sameLevels_c10 (seqK PP ref16_sameLevels_c13 K) env H := aw_seq ref16_sameLevels_c10 ref16_sameLevels_c13
def ref16_sameLevels_c15 : AC := .reg [⟨some 6, none, .mov (.c (.int (.i64) 0))⟩] [43]
@[simp] theorem ref16_sameLevels_c15_eq {K : AK} {env : Env} {H : AHeap} : aw PP ref16_sameLevels_c15 K env H = awOps PP [⟨some 6, none, .mov (.c (.int (.i64) 0))⟩] (regK K [43]) (panK K) env H := aw_reg _ _
def ref16_sameLevels_c16 : AC := .reg [⟨some 44, none, .mov (.t 6)⟩, ⟨some 45, none, .mov (.t 0)⟩, ⟨some 46, none, .mov (.t 5)⟩, ⟨some 47, none, .ixa 2 (.t 45) (.t 46)⟩, ⟨some 48, none, .fa 1 1 (.t 47)⟩, ⟨some 49, none, .ld false 1 (.t 48)⟩, ⟨some 50, none, .lenl (.t 49)⟩, ⟨some 51, none, .bin (.lss) (.t 44) (.t 50)⟩] [44, 45, 46, 47, 48, 49, 50]
@[simp] theorem ref16_sameLevels_c16_eq {K : AK} {env : Env} {H : AHeap} : aw PP ref16_sameLevels_c16 K env H = awOps PP [⟨some 44, none, .mov (.t 6)⟩, ⟨some 45, none, .mov (.t 0)⟩, ⟨some 46, none, .mov (.t 5)⟩, ⟨some 47, none, .ixa 2 (.t 45) (.t 46)⟩, ⟨some 48, none, .fa 1 1 (.t 47)⟩, ⟨some 49, none, .ld false 1 (.t 48)⟩, ⟨some 50, none, .lenl (.t 49)⟩, ⟨some 51, none, .bin (.lss) (.t 44) (.t 50)⟩] (regK K [44, 45, 46, 47, 48, 49, 50]) (panK K) env H := aw_reg _ _
def ref16_sameLevels_c17 : AC := .cond (.t 51) .skip (.exit 2)
@[simp] theorem ref16_sameLevels_c17_eq {K : AK} {env : Env} {H : AHeap} : aw PP ref16_sameLevels_c17 K env H = condQ PP (Opd.ev env (.t 51)) .skip (.exit 2) K env H := aw_cond _ .skip (.exit 2)
def ref16_sameLevels_c18 : AC := .seq ref16_sameLevels_c16 ref16_sameLevels_c17
@[simp] theorem ref16_sameLevels_c18_eq {K : AK} {env : Env} {H : AHeap} : aw PP ref16_sameLevels_c18 K env H = aw PP ref16_sameLevels_c16 (seqK PP ref16_sameLevels_c17 K) env H := aw_seq ref16_sameLevels_c16 ref16_sameLevels_c17
def ref16_sameLevels_c19_ops : List (AI × List Nat) := [(⟨some 54, none, .mov (.t 0)⟩, []), (⟨some 55, none, .mov (.t 5)⟩, []), (⟨some 56, none, .ixa 2 (.t 54) (.t 55)⟩, [0, 1]), (⟨some 57, none, .fa 1 1 (.t 56)⟩, [2]), (⟨some 58, none, .ld false 1 (.t 57)⟩, [3]), (⟨some 59, none, .mov (.t 6)⟩, []), (⟨some 60, none, .ixa 1 (.t 58) (.t 59)⟩, [4, 5]), (⟨some 61, none, .ld false 1 (.t 60)⟩, [6]), (⟨some 62, none, .mov (.t 1)⟩, []), (⟨some 63, none, .mov (.t 5)⟩, []), (⟨some 64, none, .ixa 2 (.t 62) (.t 63)⟩, [8, 9]), (⟨some 65, none, .fa 1 1 (.t 64)⟩, [10]), (⟨some 66, none, .ld false 1 (.t 65)⟩, [11]), (⟨some 67, none, .mov (.t 6)⟩, []), (⟨some 68, none, .ixa 1 (.t 66) (.t 67)⟩, [12, 13]), (⟨some 69, none, .ld false 1 (.t 68)⟩, [14]), (⟨some 70, none, .bin (.neq) (.t 61) (.t 69)⟩, [7, 15])]
def ref16_sameLevels_c19 : AC := .dreg ref16_sameLevels_c19_ops [51, 54, 55, 56, 57, 58, 59, 60, 61, 62, 63, 64, 65, 66, 67, 68, 69]
theorem ref16_sameLevels_c19_ok : lexOK ref16_sameLevels_c19_ops (fun i => [].contains i) = true := by kernel_rfl
theorem ref16_sameLevels_c19_lex {K : AK} {env : Env} {H : AHeap} (h : awLex PP (fun i => [].contains i) (regK K [51, 54, 55, 56, 57, 58, 59, 60, 61, 62, 63, 64, 65, 66, 67, 68, 69]) (panK K) [(0, ⟨some 54, none, .mov (.t 0)⟩), (1, ⟨some 55, none, .mov (.t 5)⟩), (2, ⟨some 56, none, .ixa 2 (.t 54) (.t 55)⟩), (3, ⟨some 57, none, .fa 1 1 (.t 56)⟩), (4, ⟨some 58, none, .ld false 1 (.t 57)⟩), (5, ⟨some 59, none, .mov (.t 6)⟩), (6, ⟨some 60, none, .ixa 1 (.t 58) (.t 59)⟩), (7, ⟨some 61, none, .ld false 1 (.t 60)⟩), (8, ⟨some 62, none, .mov (.t 1)⟩), (9, ⟨some 63, none, .mov (.t 5)⟩), (10, ⟨some 64, none, .ixa 2 (.t 62) (.t 63)⟩), (11, ⟨some 65, none, .fa 1 1 (.t 64)⟩), (12, ⟨some 66, none, .ld false 1 (.t 65)⟩), (13, ⟨some 67, none, .mov (.t 6)⟩), (14, ⟨some 68, none, .ixa 1 (.t 66) (.t 67)⟩), (15, ⟨some 69, none, .ld false 1 (.t 68)⟩), (16, ⟨some 70, none, .bin (.neq) (.t 61) (.t 69)⟩)] env H) : aw PP ref16_sameLevels_c19 K env H := aw_dreg_lex _ ref16_sameLevels_c19_ok h
def ref16_sameLevels_c20 : AC := .reg [⟨some 4, none, .mov (.c (.bool false))⟩] [0, 1, 5, 6, 70]
@[simp] theorem ref16_sameLevels_c20_eq {K : AK} {env : Env} {H : AHeap} : aw PP ref16_sameLevels_c20 K env H = awOps PP [⟨some 4, none, .mov (.c (.bool false))⟩] (regK K [0, 1, 5, 6, 70]) (panK K) env H := aw_reg _ _
def ref16_sameLevels_c21 : AC := .seq ref16_sameLevels_c20 .ret
@[simp] theorem ref16_sameLevels_c21_eq {K : AK} {env : Env} {H : AHeap} : aw PP ref16_sameLevels_c21 K env H = aw PP ref16_sameLevels_c20 (seqK PP .ret K) env H := aw_seq ref16_sameLevels_c20 .ret
def ref16_sameLevels_c22 : AC := .cond (.t 70) ref16_sameLevels_c21 .skip
@[simp] theorem ref16_sameLevels_c22_eq {K : AK} {env : Env} {H : AHeap} : aw PP ref16_sameLevels_c22 K env H = condQ PP (Opd.ev env (.t 70)) ref16_sameLevels_c21 .skip K env H := aw_cond _ ref16_sameLevels_c21 .skip
def ref16_sameLevels_c23 : AC := .seq ref16_sameLevels_c19 ref16_sameLevels_c22
@[simp] theorem ref16_sameLevels_c23_eq {K : AK} {env : Env} {H : AHeap} : aw PP ref16_sameLevels_c23 K env H = aw PP ref16_sameLevels_c19 (seqK PP ref16_sameLevels_c22 K) env H := aw_seq ref16_sameLevels_c19 ref16_sameLevels_c22
def ref16_sameLevels_c24 : AC := .block 3 ref16_sameLevels_c23
@[simp] theorem ref16_sameLevels_c24_eq {K : AK} {env : Env} {H : AHeap} : aw PP ref16_sameLevels_c24 K env H = aw PP ref16_sameLevels_c23 (blockK 3 K) env H := aw_block _ ref16_sameLevels_c23
def ref16_sameLevels_c25 : AC := .reg [⟨some 52, none, .mov (.t 6)⟩, ⟨some 53, none, .bin (.add) (.t 52) (.c (.int (.i64) 1))⟩, ⟨some 6, none, .mov (.t 53)⟩] [52, 53, 70]
@[simp] theorem ref16_sameLevels_c25_eq {K : AK} {env : Env} {H : AHeap} : aw PP ref16_sameLevels_c25 K env H = awOps PP [⟨some 52, none, .mov (.t 6)⟩, ⟨some 53, none, .bin (.add) (.t 52) (.c (.int (.i64) 1))⟩, ⟨some 6, none, .mov (.t 53)⟩] (regK K [52, 53, 70]) (panK K) env H := aw_reg _ _
def ref16_sameLevels_c26 : AC := .seq ref16_sameLevels_c24 ref16_sameLevels_c25
@[simp] theorem ref16_sameLevels_c26_eq {K : AK} {env : Env} {H : AHeap} : aw PP ref16_sameLevels_c26 K env H = aw PP ref16_sameLevels_c24 (seqK PP ref16_sameLevels_c25 K) env H := aw_seq ref16_sameLevels_c24 ref16_sameLevels_c25
def ref16_sameLevels_c27 : AC := .seq ref16_sameLevels_c18 ref16_sameLevels_c26
@[simp] theorem ref16_sameLevels_c27_eq {K : AK} {env : Env} {H : AHeap} : aw PP ref16_sameLevels_c27 K env H = aw PP ref16_sameLevels_c18 (seqK PP ref16_sameLevels_c26 K) env H := aw_seq ref16_sameLevels_c18 ref16_sameLevels_c26
def ref16_sameLevels_c28 : AC := .loop ref16_sameLevels_c27
def ref16_sameLevels_c29 : AC := .block 2 ref16_sameLevels_c28
@[simp] theorem ref16_sameLevels_c29_eq {K : AK} {env : Env} {H : AHeap} : aw PP ref16_sameLevels_c29 K env H = aw PP ref16_sameLevels_c28 (blockK 2 K) env H := aw_block _ ref16_sameLevels_c28
def ref16_sameLevels_c30 : AC := .seq ref16_sameLevels_c15 ref16_sameLevels_c29
@[simp] theorem ref16_sameLevels_c30_eq {K : AK} {env : Env} {H : AHeap} : aw PP ref16_sameLevels_c30 K env H = aw PP ref16_sameLevels_c15 (seqK PP ref16_sameLevels_c29 K) env H := aw_seq ref16_sameLevels_c15 ref16_sameLevels_c29
def ref16_sameLevels_c31 : AC := .seq ref16_sameLevels_c14 ref16_sameLevels_c30
@[simp] theorem ref16_sameLevels_c31_eq {K : AK} {env : Env} {H : AHeap} : aw PP ref16_sameLevels_c31 K env H = aw PP ref16_sameLevels_c14 (seqK PP ref16_sameLevels_c30 K) env H := aw_seq ref16_sameLevels_c14 ref16_sameLevels_c30
def ref16_sameLevels_c32 : AC := .block 1 ref16_sameLevels_c31
@[simp] theorem ref16_sameLevels_c32_eq {K : AK} {env : Env} {H : AHeap} : aw PP ref16_sameLevels_c32 K env H = aw PP ref16_sameLevels_c31 (blockK 1 K) env H := aw_block _ ref16_sameLevels_c31
def ref16_sameLevels_c33 : AC := .reg [⟨some 16, none, .mov (.t 5)⟩, ⟨some 17, none, .bin (.add) (.t 16) (.c (.int (.i64) 1))⟩, ⟨some 5, none, .mov (.t 17)⟩] [6, 16, 17, 51]
@[simp] theorem ref16_sameLevels_c33_eq {K : AK} {env : Env} {H : AHeap} : aw PP ref16_sameLevels_c33 K env H = awOps PP [⟨some 16, none, .mov (.t 5)⟩, ⟨some 17, none, .bin (.add) (.t 16) (.c (.int (.i64) 1))⟩, ⟨some 5, none, .mov (.t 17)⟩] (regK K [6, 16, 17, 51]) (panK K) env H := aw_reg _ _
def ref16_sameLevels_c34 : AC := .seq ref16_sameLevels_c32 ref16_sameLevels_c33
@[simp] theorem ref16_sameLevels_c34_eq {K : AK} {env : Env} {H : AHeap} : aw PP ref16_sameLevels_c34 K env H = aw PP ref16_sameLevels_c32 (seqK PP ref16_sameLevels_c33 K) env H := aw_seq ref16_sameLevels_c32 ref16_sameLevels_c33
def ref16_sameLevels_c35 : AC := .seq ref16_sameLevels_c9 ref16_sameLevels_c34
@[simp] theorem ref16_sameLevels_c35_eq {K : AK} {env : Env} {H : AHeap} : aw PP ref16_sameLevels_c35 K env H = aw PP ref16_sameLevels_c9 (seqK PP ref16_sameLevels_c34 K) env H := aw_seq ref16_sameLevels_c9 ref16_sameLevels_c34
def ref16_sameLevels_c36 : AC := .loop ref16_sameLevels_c35
def ref16_sameLevels_c37 : AC := .block 0 ref16_sameLevels_c36
@[simp] theorem ref16_sameLevels_c37_eq {K : AK} {env : Env} {H : AHeap} : aw PP ref16_sameLevels_c37 K env H = aw PP ref16_sameLevels_c36 (blockK 0 K) env H := aw_block _ ref16_sameLevels_c36
def ref16_sameLevels_c38 : AC := .seq ref16_sameLevels_c6 ref16_sameLevels_c37
@[simp] theorem ref16_sameLevels_c38_eq {K : AK} {env : Env} {H : AHeap} : aw PP ref16_sameLevels_c38 K env H = aw PP ref16_sameLevels_c6 (seqK PP ref16_sameLevels_c37 K) env H := aw_seq ref16_sameLevels_c6 ref16_sameLevels_c37
def ref16_sameLevels_c39 : AC := .reg [⟨some 4, none, .mov (.c (.bool true))⟩] [0, 1, 5, 15]
@[simp] theorem ref16_sameLevels_c39_eq {K : AK} {env : Env} {H : AHeap} : aw PP ref16_sameLevels_c39 K env H = awOps PP [⟨some 4, none, .mov (.c (.bool true))⟩] (regK K [0, 1, 5, 15]) (panK K) env H := aw_reg _ _
def ref16_sameLevels_c40 : AC := .seq ref16_sameLevels_c39 .ret
@[simp] theorem ref16_sameLevels_c40_eq {K : AK} {env : Env} {H : AHeap} : aw PP ref16_sameLevels_c40 K env H = aw PP ref16_sameLevels_c39 (seqK PP .ret K) env H := aw_seq ref16_sameLevels_c39 .ret
def ref16_sameLevels_c41 : AC := .seq ref16_sameLevels_c38 ref16_sameLevels_c40
@[simp] theorem ref16_sameLevels_c41_eq {K : AK} {env : Env} {H : AHeap} : aw PP ref16_sameLevels_c41 K env H = aw PP ref16_sameLevels_c38 (seqK PP ref16_sameLevels_c40 K) env H := aw_seq ref16_sameLevels_c38 ref16_sameLevels_c40
def ref16_sameLevels_c42 : AC := .seq ref16_sameLevels_c5 ref16_sameLevels_c41
@[simp] theorem ref16_sameLevels_c42_eq {K : AK} {env : Env} {H : AHeap} : aw PP ref16_sameLevels_c42 K env H = aw PP ref16_sameLevels_c5 (seqK PP ref16_sameLevels_c41 K) env H := aw_seq ref16_sameLevels_c5 ref16_sameLevels_c41
def ref16_sameLevels_c43 : AC := .seq ref16_sameLevels_c0 ref16_sameLevels_c42
@[simp] theorem ref16_sameLevels_c43_eq {K : AK} {env : Env} {H : AHeap} : aw PP ref16_sameLevels_c43 K env H = aw PP ref16_sameLevels_c0 (seqK PP ref16_sameLevels_c42 K) env H := aw_seq ref16_sameLevels_c0 ref16_sameLevels_c42
def ref16_sameLevels_ac : AC := ref16_sameLevels_c43
@[simp] theorem ref16_sameLevels_ac_eq {K : AK} {env : Env} {H : AHeap} : aw PP ref16_sameLevels_ac K env H = aw PP ref16_sameLevels_c43 K env H := Eq.trans rfl rfl
def ref16_sameLevels_rs : List ARV := [.tmp 4]
abbrev ref16_sameLevels_id : Nat := 32
theorem ref16_sameLevels_comp : compF PP ref16_sameLevels_kl ref16_sameLevels_ow 2 Try.f32 = some (ref16_sameLevels_ac, ref16_sameLevels_rs) := by kernel_rfl
theorem ref16_sameLevels_enter {args : List AV} {H : AHeap} {post : ARes → AHeap → Prop} (ha : args.length = 2) (h : aw PP ref16_sameLevels_ac (retK ref16_sameLevels_rs post) (argEnv 0 args) H) : ACalls PP ref16_sameLevels_id args H post := .enterF Try.func32 PP_mix ref16_sameLevels_comp ha h

/-! emendate.emendateref16.EqualExpr -/
def ref16_EqualExpr_kl : Nat → List Nat
  | 0 => [0, 1, 4]
  | 1 => [6, 7, 8, 9, 10, 11, 12, 13, 14, 15, 16, 17, 18, 19, 20, 21, 22, 23, 24, 25]
  | 2 => [2, 3, 26]
  | 3 => [26]
  | 4 => [27, 28, 29, 30]
  | 5 => [32, 33, 45]
  | 6 => [31, 34, 35, 36, 37, 38, 39, 40, 41, 42, 43, 44]
  | 7 => [2, 3, 5, 45]
  | 8 => [2, 3, 5, 31]
  | _ => []
def ref16_EqualExpr_ow : Nat → Nat → Bool := fun _ _ => false
def ref16_EqualExpr_c0 : AC := .reg [⟨some 2, none, .box (.t 0) 3 47⟩, ⟨some 3, none, .box (.t 1) 3 47⟩, ⟨some 4, none, .mov (.c (.bool false))⟩] [0, 1, 4]
@[simp] theorem ref16_EqualExpr_c0_eq {K : AK} {env : Env} {H : AHeap} : aw PP ref16_EqualExpr_c0 K env H = awOps PP [⟨some 2, none, .box (.t 0) 3 47⟩, ⟨some 3, none, .box (.t 1) 3 47⟩, ⟨some 4, none, .mov (.c (.bool false))⟩] (regK K [0, 1, 4]) (panK K) env H := aw_reg _ _
def ref16_EqualExpr_c1 : AC := .reg [⟨some 6, none, .fa 0 0 (.t 2)⟩, ⟨some 7, none, .ld false 1 (.t 6)⟩, ⟨some 8, none, .fa 0 0 (.t 3)⟩, ⟨some 9, none, .ld false 1 (.t 8)⟩, ⟨some 10, none, .bin (.neq) (.t 7) (.t 9)⟩, ⟨some 11, none, .mov (.t 10)⟩, ⟨some 12, some (11, false), .fa 1 1 (.t 2)⟩, ⟨some 13, some (11, false), .ld false 1 (.t 12)⟩, ⟨some 14, some (11, false), .fa 1 1 (.t 3)⟩, ⟨some 15, some (11, false), .ld false 1 (.t 14)⟩, ⟨some 16, some (11, false), .bin (.neq) (.t 13) (.t 15)⟩, ⟨some 17, none, .pick (.t 11) (.c (.bool true)) (.t 16)⟩, ⟨some 18, none, .mov (.t 17)⟩, ⟨some 19, some (18, false), .fa 2 2 (.t 2)⟩, ⟨some 20, some (18, false), .ld false 1 (.t 19)⟩, ⟨some 21, some (18, false), .lenl (.t 20)⟩, ⟨some 22, some (18, false), .fa 2 2 (.t 3)⟩, ⟨some 23, some (18, false), .ld false 1 (.t 22)⟩, ⟨some 24, some (18, false), .lenl (.t 23)⟩, ⟨some 25, some (18, false), .bin (.neq) (.t 21) (.t 24)⟩, ⟨some 26, none, .pick (.t 18) (.c (.bool true)) (.t 25)⟩] [6, 7, 8, 9, 10, 11, 12, 13, 14, 15, 16, 17, 18, 19, 20, 21, 22, 23, 24, 25]
@[simp] theorem ref16_EqualExpr_c1_eq {K : AK} {env : Env} {H : AHeap} : aw PP ref16_EqualExpr_c1 K env H = awOps PP [⟨some 6, none, .fa 0 0 (.t 2)⟩, ⟨some 7, none, .ld false 1 (.t 6)⟩, ⟨some 8, none, .fa 0 0 (.t 3)⟩, ⟨some 9, none, .ld false 1 (.t 8)⟩, ⟨some 10, none, .bin (.neq) (.t 7) (.t 9)⟩, ⟨some 11, none, .mov (.t 10)⟩, ⟨some 12, some (11, false), .fa 1 1 (.t 2)⟩, ⟨some 13, some (11, false), .ld false 1 (.t 12)⟩, ⟨some 14, some (11, false), .fa 1 1 (.t 3)⟩, ⟨some 15, some (11, false), .ld false 1 (.t 14)⟩, ⟨some 16, some (11, false), .bin (.neq) (.t 13) (.t 15)⟩, ⟨some 17, none, .pick (.t 11) (.c (.bool true)) (.t 16)⟩, ⟨some 18, none, .mov (.t 17)⟩, ⟨some 19, some (18, false), .fa 2 2 (.t 2)⟩, ⟨some 20, some (18, false), .ld false 1 (.t 19)⟩, ⟨some 21, some (18, false), .lenl (.t 20)⟩, ⟨some 22, some (18, false), .fa 2 2 (.t 3)⟩, ⟨some 23, some (18, false), .ld false 1 (.t 22)⟩, ⟨some 24, some (18, false), .lenl (.t 23)⟩, ⟨some 25, some (18, false), .bin (.neq) (.t 21) (.t 24)⟩, ⟨some 26, none, .pick (.t 18) (.c (.bool true)) (.t 25)⟩] (regK K [6, 7, 8, 9, 10, 11, 12, 13, 14, 15, 16, 17, 18, 19, 20, 21, 22, 23, 24, 25]) (panK K) env H := aw_reg _ _
def ref16_EqualExpr_c2 : AC := .reg [⟨some 4, none, .mov (.c (.bool false))⟩] [2, 3, 26]
@[simp] theorem ref16_EqualExpr_c2_eq {K : AK} {env : Env} {H : AHeap} : aw PP ref16_EqualExpr_c2 K env H = awOps PP [⟨some 4, none, .mov (.c (.bool false))⟩] (regK K [2, 3, 26]) (panK K) env H := aw_reg _ _
def ref16_EqualExpr_c3 : AC := .seq ref16_EqualExpr_c2 .ret
@[simp] theorem ref16_EqualExpr_c3_eq {K : AK} {env : Env} {H : AHeap} : aw PP ref16_EqualExpr_c3 K env H = aw PP ref16_EqualExpr_c2 (seqK PP .ret K) env H := aw_seq ref16_EqualExpr_c2 .ret
def ref16_EqualExpr_c4 : AC := .cond (.t 26) ref16_EqualExpr_c3 .skip
@[simp] theorem ref16_EqualExpr_c4_eq {K : AK} {env : Env} {H : AHeap} : aw PP ref16_EqualExpr_c4 K env H = condQ PP (Opd.ev env (.t 26)) ref16_EqualExpr_c3 .skip K env H := aw_cond _ ref16_EqualExpr_c3 .skip
def ref16_EqualExpr_c5 : AC := .seq ref16_EqualExpr_c1 ref16_EqualExpr_c4
@[simp] theorem ref16_EqualExpr_c5_eq {K : AK} {env : Env} {H : AHeap} : aw PP ref16_EqualExpr_c5 K env H = aw PP ref16_EqualExpr_c1 (seqK PP ref16_EqualExpr_c4 K) env H := aw_seq ref16_EqualExpr_c1 ref16_EqualExpr_c4
def ref16_EqualExpr_c6 : AC := .reg [⟨some 5, none, .mov (.c (.int (.i64) 0))⟩] [26]
@[simp] theorem ref16_EqualExpr_c6_eq {K : AK} {env : Env} {H : AHeap} : aw PP ref16_EqualExpr_c6 K env H = awOps PP [⟨some 5, none, .mov (.c (.int (.i64) 0))⟩] (regK K [26]) (panK K) env H := aw_reg _ _
def ref16_EqualExpr_c7 : AC := .reg [⟨some 27, none, .mov (.t 5)⟩, ⟨some 28, none, .fa 2 2 (.t 2)⟩, ⟨some 29, none, .ld false 1 (.t 28)⟩, ⟨some 30, none, .lenl (.t 29)⟩, ⟨some 31, none, .bin (.lss) (.t 27) (.t 30)⟩] [27, 28, 29, 30]
@[simp] theorem ref16_EqualExpr_c7_eq {K : AK} {env : Env} {H : AHeap} : aw PP ref16_EqualExpr_c7 K env H = awOps PP [⟨some 27, none, .mov (.t 5)⟩, ⟨some 28, none, .fa 2 2 (.t 2)⟩, ⟨some 29, none, .ld false 1 (.t 28)⟩, ⟨some 30, none, .lenl (.t 29)⟩, ⟨some 31, none, .bin (.lss) (.t 27) (.t 30)⟩] (regK K [27, 28, 29, 30]) (panK K) env H := aw_reg _ _
def ref16_EqualExpr_c8 : AC := .cond (.t 31) .skip (.exit 0)
@[simp] theorem ref16_EqualExpr_c8_eq {K : AK} {env : Env} {H : AHeap} : aw PP ref16_EqualExpr_c8 K env H = condQ PP (Opd.ev env (.t 31)) .skip (.exit 0) K env H := aw_cond _ .skip (.exit 0)
def ref16_EqualExpr_c9 : AC := .seq ref16_EqualExpr_c7 ref16_EqualExpr_c8
@[simp] theorem ref16_EqualExpr_c9_eq {K : AK} {env : Env} {H : AHeap} : aw PP ref16_EqualExpr_c9 K env H = aw PP ref16_EqualExpr_c7 (seqK PP ref16_EqualExpr_c8 K) env H := aw_seq ref16_EqualExpr_c7 ref16_EqualExpr_c8
def ref16_EqualExpr_c10_ops : List (AI × List Nat) := [(⟨some 34, none, .fa 2 2 (.t 2)⟩, []), (⟨some 35, none, .ld false 1 (.t 34)⟩, [0]), (⟨some 36, none, .mov (.t 5)⟩, []), (⟨some 37, none, .ixa 3 (.t 35) (.t 36)⟩, [1, 2]), (⟨some 38, none, .ld true 3 (.t 37)⟩, [3]), (⟨some 39, none, .fa 2 2 (.t 3)⟩, []), (⟨some 40, none, .ld false 1 (.t 39)⟩, [5]), (⟨some 41, none, .mov (.t 5)⟩, []), (⟨some 42, none, .ixa 3 (.t 40) (.t 41)⟩, [6, 7]), (⟨some 43, none, .ld true 3 (.t 42)⟩, [8]), (⟨some 44, none, .call (.c (.fn (.func 33) [] [])) [.t 38, .t 43]⟩, [4, 9]), (⟨some 45, none, .not (.t 44)⟩, [10])]
def ref16_EqualExpr_c10 : AC := .dreg ref16_EqualExpr_c10_ops [31, 34, 35, 36, 37, 38, 39, 40, 41, 42, 43, 44]
theorem ref16_EqualExpr_c10_ok : lexOK ref16_EqualExpr_c10_ops (fun i => [].contains i) = true := by kernel_rfl
theorem ref16_EqualExpr_c10_lex {K : AK} {env : Env} {H : AHeap} (h : awLex PP (fun i => [].contains i) (regK K [31, 34, 35, 36, 37, 38, 39, 40, 41, 42, 43, 44]) (panK K) [(0, ⟨some 34, none, .fa 2 2 (.t 2)⟩), (1, ⟨some 35, none, .ld false 1 (.t 34)⟩), (2, ⟨some 36, none, .mov (.t 5)⟩), (3, ⟨some 37, none, .ixa 3 (.t 35) (.t 36)⟩), (4, ⟨some 38, none, .ld true 3 (.t 37)⟩), (5, ⟨some 39, none, .fa 2 2 (.t 3)⟩), (6, ⟨some 40, none, .ld false 1 (.t 39)⟩), (7, ⟨some 41, none, .mov (.t 5)⟩), (8, ⟨some 42, none, .ixa 3 (.t 40) (.t 41)⟩), (9, ⟨some 43, none, .ld true 3 (.t 42)⟩), (10, ⟨some 44, none, .call (.c (.fn (.func 33) [] [])) [.t 38, .t 43]⟩), (11, ⟨some 45, none, .not (.t 44)⟩)] env H) : aw PP ref16_EqualExpr_c10 K env H := aw_dreg_lex _ ref16_EqualExpr_c10_ok h
theorem ref16_EqualExpr_c10_okF : lexOKF ref16_EqualExpr_c10_ops 10 (fun i => [10].contains i) = true := by kernel_rfl
theorem ref16_EqualExpr_c10_lexF {K : AK} {env : Env} {H : AHeap} (B : List Nat) (h : awLexF PP 10 (fun i => [10].contains i) B H (regK K [31, 34, 35, 36, 37, 38, 39, 40, 41, 42, 43, 44]) (panK K) [(0, ⟨some 34, none, .fa 2 2 (.t 2)⟩), (1, ⟨some 35, none, .ld false 1 (.t 34)⟩), (2, ⟨some 36, none, .mov (.t 5)⟩), (3, ⟨some 37, none, .ixa 3 (.t 35) (.t 36)⟩), (4, ⟨some 38, none, .ld true 3 (.t 37)⟩), (5, ⟨some 39, none, .fa 2 2 (.t 3)⟩), (6, ⟨some 40, none, .ld false 1 (.t 39)⟩), (7, ⟨some 41, none, .mov (.t 5)⟩), (8, ⟨some 42, none, .ixa 3 (.t 40) (.t 41)⟩), (9, ⟨some 43, none, .ld true 3 (.t 42)⟩), (10, ⟨some 44, none, .call (.c (.fn (.func 33) [] [])) [.t 38, .t 43]⟩), (11, ⟨some 45, none, .not (.t 44)⟩)] env H) : aw PP ref16_EqualExpr_c10 K env H := aw_dreg_lexF _ _ B ref16_EqualExpr_c10_okF h
def ref16_EqualExpr_c11 : AC := .reg [⟨some 4, none, .mov (.c (.bool false))⟩] [2, 3, 5, 45]
@[simp] theorem ref16_EqualExpr_c11_eq {K : AK} {env : Env} {H : AHeap} : aw PP ref16_EqualExpr_c11 K env H = awOps PP [⟨some 4, none, .mov (.c (.bool false))⟩] (regK K [2, 3, 5, 45]) (panK K) env H := aw_reg _ _
def ref16_EqualExpr_c12 : AC := .seq ref16_EqualExpr_c11 .ret
@[simp] theorem ref16_EqualExpr_c12_eq {K : AK} {env : Env} {H : AHeap} : aw PP ref16_EqualExpr_c12 K env H = aw PP ref16_EqualExpr_c11 (seqK PP .ret K) env H := aw_seq ref16_EqualExpr_c11 .ret
def ref16_EqualExpr_c13 : AC := .cond (.t 45) ref16_EqualExpr_c12 .skip
@[simp] theorem ref16_EqualExpr_c13_eq {K : AK} {env : Env} {H : AHeap} : aw PP ref16_EqualExpr_c13 K env H = condQ PP (Opd.ev env (.t 45)) ref16_EqualExpr_c12 .skip K env H := aw_cond _ ref16_EqualExpr_c12 .skip
def ref16_EqualExpr_c14 : AC := .seq ref16_EqualExpr_c10 ref16_EqualExpr_c13
@[simp] theorem ref16_EqualExpr_c14_eq {K : AK} {env : Env} {H : AHeap} : aw PP ref16_EqualExpr_c14 K env H = aw PP ref16_EqualExpr_c10 (seqK PP ref16_EqualExpr_c13 K) env H := aw_seq ref16_EqualExpr_c10 ref16_EqualExpr_c13
def ref16_EqualExpr_c15 : AC := .block 1 ref16_EqualExpr_c14
@[simp] theorem ref16_EqualExpr_c15_eq {K : AK} {env : Env} {H : AHeap} : aw PP ref16_EqualExpr_c15 K env H = aw PP ref16_EqualExpr_c14 (blockK 1 K) env H := aw_block _ ref16_EqualExpr_c14
def ref16_EqualExpr_c16 : AC := .reg [⟨some 32, none, .mov (.t 5)⟩, ⟨some 33, none, .bin (.add) (.t 32) (.c (.int (.i64) 1))⟩, ⟨some 5, none, .mov (.t 33)⟩] [32, 33, 45]
@[simp] theorem ref16_EqualExpr_c16_eq {K : AK} {env : Env} {H : AHeap} : aw PP ref16_EqualExpr_c16 K env H = awOps PP [⟨some 32, none, .mov (.t 5)⟩, ⟨some 33, none, .bin (.add) (.t 32) (.c (.int (.i64) 1))⟩, ⟨some 5, none, .mov (.t 33)⟩] (regK K [32, 33, 45]) (panK K) env H := aw_reg _ _
def ref16_EqualExpr_c17 : AC := .seq ref16_EqualExpr_c15 ref16_EqualExpr_c16
@[simp] theorem ref16_EqualExpr_c17_eq {K : AK} {env : Env} {H : AHeap} : aw PP ref16_EqualExpr_c17 K env H = aw PP ref16_EqualExpr_c15 (seqK PP ref16_EqualExpr_c16 K) env H := aw_seq ref16_EqualExpr_c15 ref16_EqualExpr_c16
def ref16_EqualExpr_c18 : AC := .seq ref16_EqualExpr_c9 ref16_EqualExpr_c17
@[simp] theorem ref16_EqualExpr_c18_eq {K : AK} {env : Env} {H : AHeap} : aw PP ref16_EqualExpr_c18 K env H = aw PP ref16_EqualExpr_c9 (seqK PP ref16_EqualExpr_c17 K) env H := aw_seq ref16_EqualExpr_c9 ref16_EqualExpr_c17
def ref16_EqualExpr_c19 : AC := .loop ref16_EqualExpr_c18
def ref16_EqualExpr_c20 : AC := .block 0 ref16_EqualExpr_c19
@[simp] theorem ref16_EqualExpr_c20_eq {K : AK} {env : Env} {H : AHeap} : aw PP ref16_EqualExpr_c20 K env H = aw PP ref16_EqualExpr_c19 (blockK 0 K) env H := aw_block _ ref16_EqualExpr_c19
def ref16_EqualExpr_c21 : AC := .seq ref16_EqualExpr_c6 ref16_EqualExpr_c20
@[simp] theorem ref16_EqualExpr_c21_eq {K : AK} {env : Env} {H : AHeap} : aw PP ref16_EqualExpr_c21 K env H = aw PP ref16_EqualExpr_c6 (seqK PP ref16_EqualExpr_c20 K) env H := aw_seq ref16_EqualExpr_c6 ref16_EqualExpr_c20
def ref16_EqualExpr_c22 : AC := .reg [⟨some 4, none, .mov (.c (.bool true))⟩] [2, 3, 5, 31]
@[simp] theorem ref16_EqualExpr_c22_eq {K : AK} {env : Env} {H : AHeap} : aw PP ref16_EqualExpr_c22 K env H = awOps PP [⟨some 4, none, .mov (.c (.bool true))⟩] (regK K [2, 3, 5, 31]) (panK K) env H := aw_reg _ _
def ref16_EqualExpr_c23 : AC := .seq ref16_EqualExpr_c22 .ret
@[simp] theorem ref16_EqualExpr_c23_eq {K : AK} {env : Env} {H : AHeap} : aw PP ref16_EqualExpr_c23 K env H = aw PP ref16_EqualExpr_c22 (seqK PP .ret K) env H := aw_seq ref16_EqualExpr_c22 .ret
def ref16_EqualExpr_c24 : AC := .seq ref16_EqualExpr_c21 ref16_EqualExpr_c23
@[simp] theorem ref16_EqualExpr_c24_eq {K : AK} {env : Env} {H : AHeap} : aw PP ref16_EqualExpr_c24 K env H = aw PP ref16_EqualExpr_c21 (seqK PP ref16_EqualExpr_c23 K) env H := aw_seq ref16_EqualExpr_c21 ref16_EqualExpr_c23
def ref16_EqualExpr_c25 : AC := .seq ref16_EqualExpr_c5 ref16_EqualExpr_c24
@[simp] theorem ref16_EqualExpr_c25_eq {K : AK} {env : Env} {H : AHeap} : aw PP ref16_EqualExpr_c25 K env H = aw PP ref16_EqualExpr_c5 (seqK PP ref16_EqualExpr_c24 K) env H := aw_seq ref16_EqualExpr_c5 ref16_EqualExpr_c24
def ref16_EqualExpr_c26 : AC := .seq ref16_EqualExpr_c0 ref16_EqualExpr_c25
@[simp] theorem ref16_EqualExpr_c26_eq {K : AK} {env : Env} {H : AHeap} : aw PP ref16_EqualExpr_c26 K env H = aw PP ref16_EqualExpr_c0 (seqK PP ref16_EqualExpr_c25 K) env H := aw_seq ref16_EqualExpr_c0 ref16_EqualExpr_c25
def ref16_EqualExpr_ac : AC := ref16_EqualExpr_c26
@[simp] theorem ref16_EqualExpr_ac_eq {K : AK} {env : Env} {H : AHeap} : aw PP ref16_EqualExpr_ac K env H = aw PP ref16_EqualExpr_c26 K env H := Eq.trans rfl rfl
def ref16_EqualExpr_rs : List ARV := [.tmp 4]
abbrev ref16_EqualExpr_id : Nat := 33
theorem ref16_EqualExpr_comp : compF PP ref16_EqualExpr_kl ref16_EqualExpr_ow 2 Try.f33 = some (ref16_EqualExpr_ac, ref16_EqualExpr_rs) := by kernel_rfl
theorem ref16_EqualExpr_enter {args : List AV} {H : AHeap} {post : ARes → AHeap → Prop} (ha : args.length = 2) (h : aw PP ref16_EqualExpr_ac (retK ref16_EqualExpr_rs post) (argEnv 0 args) H) : ACalls PP ref16_EqualExpr_id args H post := .enterF Try.func33 PP_mix ref16_EqualExpr_comp ha h

/-! (*emendate.emendateref17.parser).text -/
def ref17_parser_text_kl : Nat → List Nat
  | 0 => [2]
  | 1 => [0, 3, 4, 5, 6, 7, 8, 9, 10, 11, 12, 13, 14, 15, 16, 17, 18, 19, 20]
  | _ => []
def ref17_parser_text_ow : Nat → Nat → Bool := fun _ _ => false
def ref17_parser_text_c0 : AC := .reg [⟨some 2, none, .mov (.c (.str []))⟩] [2]
@[simp] theorem ref17_parser_text_c0_eq {K : AK} {env : Env} {H : AHeap} : aw PP ref17_parser_text_c0 K env H = awOps PP [⟨some 2, none, .mov (.c (.str []))⟩] (regK K [2]) (panK K) env H := aw_reg _ _
def ref17_parser_text_c1_ops : List (AI × List Nat) := [(⟨some 3, none, .mov (.t 0)⟩, []), (⟨some 4, none, .nilc (.t 3)⟩, [0]), (⟨some 5, none, .fa 0 0 (.t 4)⟩, [1]), (⟨some 6, none, .ld false 1 (.t 5)⟩, [2]), (⟨some 7, none, .mov (.t 0)⟩, []), (⟨some 8, none, .nilc (.t 7)⟩, [4]), (⟨some 9, none, .fa 1 1 (.t 8)⟩, [5]), (⟨some 10, none, .ld false 1 (.t 9)⟩, [6]), (⟨some 11, none, .mov (.t 0)⟩, []), (⟨some 12, none, .nilc (.t 11)⟩, [8]), (⟨some 13, none, .fa 1 1 (.t 12)⟩, [9]), (⟨some 14, none, .ld false 1 (.t 13)⟩, [10]), (⟨some 15, none, .mov (.t 0)⟩, []), (⟨some 16, none, .nilc (.t 15)⟩, [12]), (⟨some 17, none, .fa 2 2 (.t 16)⟩, [13]), (⟨some 18, none, .ld false 1 (.t 17)⟩, [14]), (⟨some 19, none, .bin (.add) (.t 14) (.t 18)⟩, [11, 15]), (⟨some 20, none, .sls (.t 6) (some (.t 10)) (some (.t 19))⟩, [3, 7, 16]), (⟨some 2, none, .mov (.t 20)⟩, [17, 0, 1, 2, 3, 4, 5, 6, 7, 8, 9, 10, 11, 12, 13, 14, 15, 16, 17])]
def ref17_parser_text_c1 : AC := .dreg ref17_parser_text_c1_ops [0, 3, 4, 5, 6, 7, 8, 9, 10, 11, 12, 13, 14, 15, 16, 17, 18, 19, 20]
theorem ref17_parser_text_c1_ok : lexOK ref17_parser_text_c1_ops (fun i => [].contains i) = true := by kernel_rfl
theorem ref17_parser_text_c1_lex {K : AK} {env : Env} {H : AHeap} (h : awLex PP (fun i => [].contains i) (regK K [0, 3, 4, 5, 6, 7, 8, 9, 10, 11, 12, 13, 14, 15, 16, 17, 18, 19, 20]) (panK K) [(0, ⟨some 3, none, .mov (.t 0)⟩), (1, ⟨some 4, none, .nilc (.t 3)⟩), (2, ⟨some 5, none, .fa 0 0 (.t 4)⟩), (3, ⟨some 6, none, .ld false 1 (.t 5)⟩), (4, ⟨some 7, none, .mov (.t 0)⟩), (5, ⟨some 8, none, .nilc (.t 7)⟩), (6, ⟨some 9, none, .fa 1 1 (.t 8)⟩), (7, ⟨some 10, none, .ld false 1 (.t 9)⟩), (8, ⟨some 11, none, .mov (.t 0)⟩), (9, ⟨some 12, none, .nilc (.t 11)⟩), (10, ⟨some 13, none, .fa 1 1 (.t 12)⟩), (11, ⟨some 14, none, .ld false 1 (.t 13)⟩), (12, ⟨some 15, none, .mov (.t 0)⟩), (13, ⟨some 16, none, .nilc (.t 15)⟩), (14, ⟨some 17, none, .fa 2 2 (.t 16)⟩), (15, ⟨some 18, none, .ld false 1 (.t 17)⟩), (16, ⟨some 19, none, .bin (.add) (.t 14) (.t 18)⟩), (17, ⟨some 20, none, .sls (.t 6) (some (.t 10)) (some (.t 19))⟩), (18, ⟨some 2, none, .mov (.t 20)⟩)] env H) : aw PP ref17_parser_text_c1 K env H := aw_dreg_lex _ ref17_parser_text_c1_ok h
def ref17_parser_text_c2 : AC := .seq ref17_parser_text_c1 .ret
@[simp] theorem ref17_parser_text_c2_eq {K : AK} {env : Env} {H : AHeap} : aw PP ref17_parser_text_c2 K env H = aw PP ref17_parser_text_c1 (seqK PP .ret K) env H := aw_seq ref17_parser_text_c1 .ret
def ref17_parser_text_c3 : AC := .seq ref17_parser_text_c0 ref17_parser_text_c2
@[simp] theorem ref17_parser_text_c3_eq {K : AK} {env : Env} {H : AHeap} : aw PP ref17_parser_text_c3 K env H = aw PP ref17_parser_text_c0 (seqK PP ref17_parser_text_c2 K) env H := aw_seq ref17_parser_text_c0 ref17_parser_text_c2
def ref17_parser_text_ac : AC := ref17_parser_text_c3
@[simp] theorem ref17_parser_text_ac_eq {K : AK} {env : Env} {H : AHeap} : aw PP ref17_parser_text_ac K env H = aw PP ref17_parser_text_c3 K env H := Eq.trans rfl rfl
def ref17_parser_text_rs : List ARV := [.tmp 2]
abbrev ref17_parser_text_id : Nat := 34
theorem ref17_parser_text_comp : compF PP ref17_parser_text_kl ref17_parser_text_ow 1 Try.f34 = some (ref17_parser_text_ac, ref17_parser_text_rs) := by kernel_rfl
theorem ref17_parser_text_enter {args : List AV} {H : AHeap} {post : ARes → AHeap → Prop} (ha : args.length = 1) (h : aw PP ref17_parser_text_ac (retK ref17_parser_text_rs post) (argEnv 0 args) H) : ACalls PP ref17_parser_text_id args H post := .enterF Try.func34 PP_mix ref17_parser_text_comp ha h

/-! emendate.emendateref16.Name -/
def ref16_Name_kl : Nat → List Nat
  | 0 => [2]
  | 2 => [5, 6, 7]
  | 3 => [9, 10, 56]
  | 4 => [8, 11, 12, 13, 14, 15, 16, 17, 18, 19, 20, 21, 22, 23, 24, 25, 26, 27, 28, 29, 30, 31, 32]
  | 5 => [4, 33, 34, 35, 36, 37, 38, 39, 40, 41, 42, 43, 44, 45, 46, 47, 48, 49, 50, 51, 52, 53, 54, 55]
  | 6 => [0, 3, 56]
  | 7 => [0, 3, 8, 57, 58, 59, 60, 61, 62, 63, 64, 65, 66, 67, 68, 69, 70, 71, 72, 73, 74, 75, 76, 77, 78, 79, 80, 81, 82, 83]
  | _ => []
def ref16_Name_ow : Nat → Nat → Bool := fun _ _ => false
def ref16_Name_c0 : AC := .reg [⟨some 2, none, .mov (.c (.bool false))⟩] [2]
@[simp] theorem ref16_Name_c0_eq {K : AK} {env : Env} {H : AHeap} : aw PP ref16_Name_c0 K env H = awOps PP [⟨some 2, none, .mov (.c (.bool false))⟩] (regK K [2]) (panK K) env H := aw_reg _ _
def ref16_Name_c1 : AC := .reg [⟨some 3, none, .mov (.c (.int (.i64) 0))⟩] []
@[simp] theorem ref16_Name_c1_eq {K : AK} {env : Env} {H : AHeap} : aw PP ref16_Name_c1 K env H = awOps PP [⟨some 3, none, .mov (.c (.int (.i64) 0))⟩] (regK K []) (panK K) env H := aw_reg _ _
def ref16_Name_c2 : AC := .reg [⟨some 5, none, .mov (.t 3)⟩, ⟨some 6, none, .mov (.t 0)⟩, ⟨some 7, none, .lens (.t 6)⟩, ⟨some 8, none, .bin (.lss) (.t 5) (.t 7)⟩] [5, 6, 7]
@[simp] theorem ref16_Name_c2_eq {K : AK} {env : Env} {H : AHeap} : aw PP ref16_Name_c2 K env H = awOps PP [⟨some 5, none, .mov (.t 3)⟩, ⟨some 6, none, .mov (.t 0)⟩, ⟨some 7, none, .lens (.t 6)⟩, ⟨some 8, none, .bin (.lss) (.t 5) (.t 7)⟩] (regK K [5, 6, 7]) (panK K) env H := aw_reg _ _
def ref16_Name_c3 : AC := .cond (.t 8) .skip (.exit 0)
@[simp] theorem ref16_Name_c3_eq {K : AK} {env : Env} {H : AHeap} : aw PP ref16_Name_c3 K env H = condQ PP (Opd.ev env (.t 8)) .skip (.exit 0) K env H := aw_cond _ .skip (.exit 0)
def ref16_Name_c4 : AC := .seq ref16_Name_c2 ref16_Name_c3
@[simp] theorem ref16_Name_c4_eq {K : AK} {env : Env} {H : AHeap} : aw PP ref16_Name_c4 K env H = aw PP ref16_Name_c2 (seqK PP ref16_Name_c3 K) env H := aw_seq ref16_Name_c2 ref16_Name_c3
def ref16_Name_c5 : AC := .reg [⟨some 11, none, .mov (.t 0)⟩, ⟨some 12, none, .mov (.t 3)⟩, ⟨some 13, none, .ix (.t 11) (.t 12)⟩, ⟨some 14, none, .bin (.geq) (.t 13) (.c (.int (.u8) 97))⟩, ⟨some 15, none, .mov (.t 14)⟩, ⟨some 16, some (15, true), .mov (.t 0)⟩, ⟨some 17, some (15, true), .mov (.t 3)⟩, ⟨some 18, some (15, true), .ix (.t 16) (.t 17)⟩, ⟨some 19, some (15, true), .bin (.leq) (.t 18) (.c (.int (.u8) 122))⟩, ⟨some 20, none, .pick (.t 15) (.t 19) (.c (.bool false))⟩, ⟨some 21, none, .mov (.t 20)⟩, ⟨some 22, some (21, false), .mov (.t 0)⟩, ⟨some 23, some (21, false), .mov (.t 3)⟩, ⟨some 24, some (21, false), .ix (.t 22) (.t 23)⟩, ⟨some 25, some (21, false), .bin (.geq) (.t 24) (.c (.int (.u8) 65))⟩, ⟨some 26, some (21, false), .mov (.t 25)⟩, ⟨some 27, some (26, true), .mov (.t 0)⟩, ⟨some 28, some (26, true), .mov (.t 3)⟩, ⟨some 29, some (26, true), .ix (.t 27) (.t 28)⟩, ⟨some 30, some (26, true), .bin (.leq) (.t 29) (.c (.int (.u8) 90))⟩, ⟨some 31, some (21, false), .pick (.t 26) (.t 30) (.c (.bool false))⟩, ⟨some 32, none, .pick (.t 21) (.c (.bool true)) (.t 31)⟩, ⟨some 4, none, .mov (.t 32)⟩] [8, 11, 12, 13, 14, 15, 16, 17, 18, 19, 20, 21, 22, 23, 24, 25, 26, 27, 28, 29, 30, 31, 32]
@[simp] theorem ref16_Name_c5_eq {K : AK} {env : Env} {H : AHeap} : aw PP ref16_Name_c5 K env H = awOps PP [⟨some 11, none, .mov (.t 0)⟩, ⟨some 12, none, .mov (.t 3)⟩, ⟨some 13, none, .ix (.t 11) (.t 12)⟩, ⟨some 14, none, .bin (.geq) (.t 13) (.c (.int (.u8) 97))⟩, ⟨some 15, none, .mov (.t 14)⟩, ⟨some 16, some (15, true), .mov (.t 0)⟩, ⟨some 17, some (15, true), .mov (.t 3)⟩, ⟨some 18, some (15, true), .ix (.t 16) (.t 17)⟩, ⟨some 19, some (15, true), .bin (.leq) (.t 18) (.c (.int (.u8) 122))⟩, ⟨some 20, none, .pick (.t 15) (.t 19) (.c (.bool false))⟩, ⟨some 21, none, .mov (.t 20)⟩, ⟨some 22, some (21, false), .mov (.t 0)⟩, ⟨some 23, some (21, false), .mov (.t 3)⟩, ⟨some 24, some (21, false), .ix (.t 22) (.t 23)⟩, ⟨some 25, some (21, false), .bin (.geq) (.t 24) (.c (.int (.u8) 65))⟩, ⟨some 26, some (21, false), .mov (.t 25)⟩, ⟨some 27, some (26, true), .mov (.t 0)⟩, ⟨some 28, some (26, true), .mov (.t 3)⟩, ⟨some 29, some (26, true), .ix (.t 27) (.t 28)⟩, ⟨some 30, some (26, true), .bin (.leq) (.t 29) (.c (.int (.u8) 90))⟩, ⟨some 31, some (21, false), .pick (.t 26) (.t 30) (.c (.bool false))⟩, ⟨some 32, none, .pick (.t 21) (.c (.bool true)) (.t 31)⟩, ⟨some 4, none, .mov (.t 32)⟩] (regK K [8, 11, 12, 13, 14, 15, 16, 17, 18, 19, 20, 21, 22, 23, 24, 25, 26, 27, 28, 29, 30, 31, 32]) (panK K) env H := aw_reg _ _
def ref16_Name_c6 : AC := .reg [⟨some 33, none, .mov (.t 4)⟩, ⟨some 34, none, .not (.t 33)⟩, ⟨some 35, none, .mov (.t 34)⟩, ⟨some 36, some (35, true), .mov (.t 3)⟩, ⟨some 37, some (35, true), .bin (.eql) (.t 36) (.c (.int (.i64) 0))⟩, ⟨some 38, some (35, true), .mov (.t 37)⟩, ⟨some 39, some (38, false), .mov (.t 0)⟩, ⟨some 40, some (38, false), .mov (.t 3)⟩, ⟨some 41, some (38, false), .ix (.t 39) (.t 40)⟩, ⟨some 42, some (38, false), .bin (.lss) (.t 41) (.c (.int (.u8) 48))⟩, ⟨some 43, some (38, false), .mov (.t 42)⟩, ⟨some 44, some (43, false), .mov (.t 0)⟩, ⟨some 45, some (43, false), .mov (.t 3)⟩, ⟨some 46, some (43, false), .ix (.t 44) (.t 45)⟩, ⟨some 47, some (43, false), .bin (.gtr) (.t 46) (.c (.int (.u8) 57))⟩, ⟨some 48, some (38, false), .pick (.t 43) (.c (.bool true)) (.t 47)⟩, ⟨some 49, some (38, false), .mov (.t 48)⟩, ⟨some 50, some (49, true), .mov (.t 0)⟩, ⟨some 51, some (49, true), .mov (.t 3)⟩, ⟨some 52, some (49, true), .ix (.t 50) (.t 51)⟩, ⟨some 53, some (49, true), .bin (.neq) (.t 52) (.c (.int (.u8) 95))⟩, ⟨some 54, some (38, false), .pick (.t 49) (.t 53) (.c (.bool false))⟩, ⟨some 55, some (35, true), .pick (.t 38) (.c (.bool true)) (.t 54)⟩, ⟨some 56, none, .pick (.t 35) (.t 55) (.c (.bool false))⟩] [4, 33, 34, 35, 36, 37, 38, 39, 40, 41, 42, 43, 44, 45, 46, 47, 48, 49, 50, 51, 52, 53, 54, 55]
@[simp] theorem ref16_Name_c6_eq {K : AK} {env : Env} {H : AHeap} : aw PP ref16_Name_c6 K env H = awOps PP [⟨some 33, none, .mov (.t 4)⟩, ⟨some 34, none, .not (.t 33)⟩, ⟨some 35, none, .mov (.t 34)⟩, ⟨some 36, some (35, true), .mov (.t 3)⟩, ⟨some 37, some (35, true), .bin (.eql) (.t 36) (.c (.int (.i64) 0))⟩, ⟨some 38, some (35, true), .mov (.t 37)⟩, ⟨some 39, some (38, false), .mov (.t 0)⟩, ⟨some 40, some (38, false), .mov (.t 3)⟩, ⟨some 41, some (38, false), .ix (.t 39) (.t 40)⟩, ⟨some 42, some (38, false), .bin (.lss) (.t 41) (.c (.int (.u8) 48))⟩, ⟨some 43, some (38, false), .mov (.t 42)⟩, ⟨some 44, some (43, false), .mov (.t 0)⟩, ⟨some 45, some (43, false), .mov (.t 3)⟩, ⟨some 46, some (43, false), .ix (.t 44) (.t 45)⟩, ⟨some 47, some (43, false), .bin (.gtr) (.t 46) (.c (.int (.u8) 57))⟩, ⟨some 48, some (38, false), .pick (.t 43) (.c (.bool true)) (.t 47)⟩, ⟨some 49, some (38, false), .mov (.t 48)⟩, ⟨some 50, some (49, true), .mov (.t 0)⟩, ⟨some 51, some (49, true), .mov (.t 3)⟩, ⟨some 52, some (49, true), .ix (.t 50) (.t 51)⟩, ⟨some 53, some (49, true), .bin (.neq) (.t 52) (.c (.int (.u8) 95))⟩, ⟨some 54, some (38, false), .pick (.t 49) (.t 53) (.c (.bool false))⟩, ⟨some 55, some (35, true), .pick (.t 38) (.c (.bool true)) (.t 54)⟩, ⟨some 56, none, .pick (.t 35) (.t 55) (.c (.bool false))⟩] (regK K [4, 33, 34, 35, 36, 37, 38, 39, 40, 41, 42, 43, 44, 45, 46, 47, 48, 49, 50, 51, 52, 53, 54, 55]) (panK K) env H := aw_reg _ _
def ref16_Name_c7 : AC := .reg [⟨some 2, none, .mov (.c (.bool false))⟩] [0, 3, 56]
@[simp] theorem ref16_Name_c7_eq {K : AK} {env : Env} {H : AHeap} : aw PP ref16_Name_c7 K env H = awOps PP [⟨some 2, none, .mov (.c (.bool false))⟩] (regK K [0, 3, 56]) (panK K) env H := aw_reg _ _
def ref16_Name_c8 : AC := .seq ref16_Name_c7 .ret
@[simp] theorem ref16_Name_c8_eq {K : AK} {env : Env} {H : AHeap} : aw PP ref16_Name_c8 K env H = aw PP ref16_Name_c7 (seqK PP .ret K) env H := aw_seq ref16_Name_c7 .ret
def ref16_Name_c9 : AC := .cond (.t 56) ref16_Name_c8 .skip
@[simp] theorem ref16_Name_c9_eq {K : AK} {env : Env} {H : AHeap} : aw PP ref16_Name_c9 K env H = condQ PP (Opd.ev env (.t 56)) ref16_Name_c8 .skip K env H := aw_cond _ ref16_Name_c8 .skip
def ref16_Name_c10 : AC := .seq ref16_Name_c6 ref16_Name_c9
@[simp] theorem ref16_Name_c10_eq {K : AK} {env : Env} {H : AHeap} : aw PP ref16_Name_c10 K env H = aw PP ref16_Name_c6 (seqK PP ref16_Name_c9 K) env H := aw_seq ref16_Name_c6 ref16_Name_c9
def ref16_Name_c11 : AC := .seq ref16_Name_c5 ref16_Name_c10
@[simp] theorem ref16_Name_c11_eq {K : AK} {env : Env} {H : AHeap} : aw PP ref16_Name_c11 K env H = aw PP ref16_Name_c5 (seqK PP ref16_Name_c10 K) env H := aw_seq ref16_Name_c5 ref16_Name_c10
def ref16_Name_c12 : AC := .block 1 ref16_Name_c11
@[simp] theorem ref16_Name_c12_eq {K : AK} {env : Env} {H : AHeap} : aw PP ref16_Name_c12 K env H = aw PP ref16_Name_c11 (blockK 1 K) env H := aw_block _ ref16_Name_c11
def ref16_Name_c13 : AC := .reg [⟨some 9, none, .mov (.t 3)⟩, ⟨some 10, none, .bin (.add) (.t 9) (.c (.int (.i64) 1))⟩, ⟨some 3, none, .mov (.t 10)⟩] [9, 10, 56]
@[simp] theorem ref16_Name_c13_eq {K : AK} {env : Env} {H : AHeap} : aw PP ref16_Name_c13 K env H = awOps PP [⟨some 9, none, .mov (.t 3)⟩, ⟨some 10, none, .bin (.add) (.t 9) (.c (.int (.i64) 1))⟩, ⟨some 3, none, .mov (.t 10)⟩] (regK K [9, 10, 56]) (panK K) env H := aw_reg _ _
def ref16_Name_c14 : AC := .seq ref16_Name_c12 ref16_Name_c13
@[simp] theorem ref16_Name_c14_eq {K : AK} {env : Env} {H : AHeap} : aw PP ref16_Name_c14 K env H = aw PP ref16_Name_c12 (seqK PP ref16_Name_c13 K) env H := aw_seq ref16_Name_c12 ref16_Name_c13
def ref16_Name_c15 : AC := .seq ref16_Name_c4 ref16_Name_c14
@[simp] theorem ref16_Name_c15_eq {K : AK} {env : Env} {H : AHeap} : aw PP ref16_Name_c15 K env H = aw PP ref16_Name_c4 (seqK PP ref16_Name_c14 K) env H := aw_seq ref16_Name_c4 ref16_Name_c14
def ref16_Name_c16 : AC := .loop ref16_Name_c15
def ref16_Name_c17 : AC := .block 0 ref16_Name_c16
@[simp] theorem ref16_Name_c17_eq {K : AK} {env : Env} {H : AHeap} : aw PP ref16_Name_c17 K env H = aw PP ref16_Name_c16 (blockK 0 K) env H := aw_block _ ref16_Name_c16
def ref16_Name_c18 : AC := .seq ref16_Name_c1 ref16_Name_c17
@[simp] theorem ref16_Name_c18_eq {K : AK} {env : Env} {H : AHeap} : aw PP ref16_Name_c18 K env H = aw PP ref16_Name_c1 (seqK PP ref16_Name_c17 K) env H := aw_seq ref16_Name_c1 ref16_Name_c17
def ref16_Name_c19 : AC := .reg [⟨some 57, none, .mov (.t 0)⟩, ⟨some 58, none, .bin (.neq) (.t 57) (.c (.str []))⟩, ⟨some 59, none, .mov (.t 58)⟩, ⟨some 60, some (59, true), .mov (.t 0)⟩, ⟨some 61, some (59, true), .lens (.t 60)⟩, ⟨some 62, some (59, true), .bin (.leq) (.t 61) (.c (.int (.i64) 24))⟩, ⟨some 63, none, .pick (.t 59) (.t 62) (.c (.bool false))⟩, ⟨some 64, none, .mov (.t 63)⟩, ⟨some 65, some (64, true), .mov (.t 0)⟩, ⟨some 66, some (64, true), .bin (.neq) (.t 65) (.c (.str [115, 116, 97, 114, 116]))⟩, ⟨some 67, none, .pick (.t 64) (.t 66) (.c (.bool false))⟩, ⟨some 68, none, .mov (.t 67)⟩, ⟨some 69, some (68, true), .mov (.t 0)⟩, ⟨some 70, some (68, true), .bin (.neq) (.t 69) (.c (.str [108, 101, 102, 116]))⟩, ⟨some 71, none, .pick (.t 68) (.t 70) (.c (.bool false))⟩, ⟨some 72, none, .mov (.t 71)⟩, ⟨some 73, some (72, true), .mov (.t 0)⟩, ⟨some 74, some (72, true), .bin (.neq) (.t 73) (.c (.str [114, 105, 103, 104, 116]))⟩, ⟨some 75, none, .pick (.t 72) (.t 74) (.c (.bool false))⟩, ⟨some 76, none, .mov (.t 75)⟩, ⟨some 77, some (76, true), .mov (.t 0)⟩, ⟨some 78, some (76, true), .bin (.neq) (.t 77) (.c (.str [110, 111, 110, 101]))⟩, ⟨some 79, none, .pick (.t 76) (.t 78) (.c (.bool false))⟩, ⟨some 80, none, .mov (.t 79)⟩, ⟨some 81, some (80, true), .mov (.t 0)⟩, ⟨some 82, some (80, true), .bin (.neq) (.t 81) (.c (.str [112, 114, 105, 99, 101]))⟩, ⟨some 83, none, .pick (.t 80) (.t 82) (.c (.bool false))⟩, ⟨some 2, none, .mov (.t 83)⟩] [0, 3, 8, 57, 58, 59, 60, 61, 62, 63, 64, 65, 66, 67, 68, 69, 70, 71, 72, 73, 74, 75, 76, 77, 78, 79, 80, 81, 82, 83]
@[simp] theorem ref16_Name_c19_eq {K : AK} {env : Env} {H : AHeap} : aw PP ref16_Name_c19 K env H = awOps PP [⟨some 57, none, .mov (.t 0)⟩, ⟨some 58, none, .bin (.neq) (.t 57) (.c (.str []))⟩, ⟨some 59, none, .mov (.t 58)⟩, ⟨some 60, some (59, true), .mov (.t 0)⟩, ⟨some 61, some (59, true), .lens (.t 60)⟩, ⟨some 62, some (59, true), .bin (.leq) (.t 61) (.c (.int (.i64) 24))⟩, ⟨some 63, none, .pick (.t 59) (.t 62) (.c (.bool false))⟩, ⟨some 64, none, .mov (.t 63)⟩, ⟨some 65, some (64, true), .mov (.t 0)⟩, ⟨some 66, some (64, true), .bin (.neq) (.t 65) (.c (.str [115, 116, 97, 114, 116]))⟩, ⟨some 67, none, .pick (.t 64) (.t 66) (.c (.bool false))⟩, ⟨some 68, none, .mov (.t 67)⟩, ⟨some 69, some (68, true), .mov (.t 0)⟩, ⟨some 70, some (68, true), .bin (.neq) (.t 69) (.c (.str [108, 101, 102, 116]))⟩, ⟨some 71, none, .pick (.t 68) (.t 70) (.c (.bool false))⟩, ⟨some 72, none, .mov (.t 71)⟩, ⟨some 73, some (72, true), .mov (.t 0)⟩, ⟨some 74, some (72, true), .bin (.neq) (.t 73) (.c (.str [114, 105, 103, 104, 116]))⟩, ⟨some 75, none, .pick (.t 72) (.t 74) (.c (.bool false))⟩, ⟨some 76, none, .mov (.t 75)⟩, ⟨some 77, some (76, true), .mov (.t 0)⟩, ⟨some 78, some (76, true), .bin (.neq) (.t 77) (.c (.str [110, 111, 110, 101]))⟩, ⟨some 79, none, .pick (.t 76) (.t 78) (.c (.bool false))⟩, ⟨some 80, none, .mov (.t 79)⟩, ⟨some 81, some (80, true), .mov (.t 0)⟩, ⟨some 82, some (80, true), .bin (.neq) (.t 81) (.c (.str [112, 114, 105, 99, 101]))⟩, ⟨some 83, none, .pick (.t 80) (.t 82) (.c (.bool false))⟩, ⟨some 2, none, .mov (.t 83)⟩] (regK K [0, 3, 8, 57, 58, 59, 60, 61, 62, 63, 64, 65, 66, 67, 68, 69, 70, 71, 72, 73, 74, 75, 76, 77, 78, 79, 80, 81, 82, 83]) (panK K) env H := aw_reg _ _
def ref16_Name_c20 : AC := .seq ref16_Name_c19 .ret
@[simp] theorem ref16_Name_c20_eq {K : AK} {env : Env} {H : AHeap} : aw PP ref16_Name_c20 K env H = aw PP ref16_Name_c19 (seqK PP .ret K) env H := aw_seq ref16_Name_c19 .ret
def ref16_Name_c21 : AC := .seq ref16_Name_c18 ref16_Name_c20
@[simp] theorem ref16_Name_c21_eq {K : AK} {env : Env} {H : AHeap} : aw PP ref16_Name_c21 K env H = aw PP ref16_Name_c18 (seqK PP ref16_Name_c20 K) env H := aw_seq ref16_Name_c18 ref16_Name_c20
def ref16_Name_c22 : AC := .seq ref16_Name_c0 ref16_Name_c21
@[simp] theorem ref16_Name_c22_eq {K : AK} {env : Env} {H : AHeap} : aw PP ref16_Name_c22 K env H = aw PP ref16_Name_c0 (seqK PP ref16_Name_c21 K) env H := aw_seq ref16_Name_c0 ref16_Name_c21
def ref16_Name_ac : AC := ref16_Name_c22
@[simp] theorem ref16_Name_ac_eq {K : AK} {env : Env} {H : AHeap} : aw PP ref16_Name_ac K env H = aw PP ref16_Name_c22 K env H := Eq.trans rfl rfl
def ref16_Name_rs : List ARV := [.tmp 2]
abbrev ref16_Name_id : Nat := 36
theorem ref16_Name_comp : compF PP ref16_Name_kl ref16_Name_ow 1 Try.f36 = some (ref16_Name_ac, ref16_Name_rs) := by kernel_rfl
theorem ref16_Name_enter {args : List AV} {H : AHeap} {post : ARes → AHeap → Prop} (ha : args.length = 1) (h : aw PP ref16_Name_ac (retK ref16_Name_rs post) (argEnv 0 args) H) : ACalls PP ref16_Name_id args H post := .enterF Try.func36 PP_mix ref16_Name_comp ha h

/-! emendate.emendateref16.Expr -/
def ref16_Expr_kl : Nat → List Nat
  | 0 => [0, 4]
  | 1 => [6, 7, 8, 9, 10, 11, 12, 13, 14, 15, 16, 17, 18, 19, 20, 21, 22, 23, 24, 25]
  | 2 => [1, 2, 26]
  | 3 => [26, 27]
  | 4 => [29, 30, 31, 51]
  | 5 => [1, 2, 32]
  | 6 => [34]
  | 7 => [28, 33, 35, 36, 37, 38, 39, 40, 41, 42, 43]
  | 8 => [1, 2, 44]
  | 9 => [33, 46]
  | 10 => [28, 45, 47, 48, 49]
  | 11 => [1, 2, 50]
  | 12 => [28, 45, 52]
  | 13 => [51, 53, 54, 55]
  | 14 => [1, 2, 56]
  | 15 => [32, 44, 50, 56]
  | 16 => [57, 58, 59, 60]
  | 17 => [62, 63, 72]
  | 18 => [61, 64, 65, 66, 67, 68, 69, 70, 71]
  | 19 => [1, 2, 5, 72]
  | 20 => [1, 2, 5, 61]
  | _ => []
def ref16_Expr_ow : Nat → Nat → Bool := fun _ _ => false
def ref16_Expr_c0 : AC := .reg [⟨some 2, none, .box (.t 0) 3 47⟩, ⟨some 4, none, .mov (.c (.bool false))⟩] [0, 4]
@[simp] theorem ref16_Expr_c0_eq {K : AK} {env : Env} {H : AHeap} : aw PP ref16_Expr_c0 K env H = awOps PP [⟨some 2, none, .box (.t 0) 3 47⟩, ⟨some 4, none, .mov (.c (.bool false))⟩] (regK K [0, 4]) (panK K) env H := aw_reg _ _
def ref16_Expr_c1 : AC := .reg [⟨some 6, none, .mov (.t 1)⟩, ⟨some 7, none, .bin (.lss) (.t 6) (.c (.int (.i64) 1))⟩, ⟨some 8, none, .mov (.t 7)⟩, ⟨some 9, some (8, false), .fa 0 0 (.t 2)⟩, ⟨some 10, some (8, false), .ld false 1 (.t 9)⟩, ⟨some 11, some (8, false), .bin (.lss) (.t 10) (.c (.int (.i64) 1))⟩, ⟨some 12, none, .pick (.t 8) (.c (.bool true)) (.t 11)⟩, ⟨some 13, none, .mov (.t 12)⟩, ⟨some 14, some (13, false), .fa 0 0 (.t 2)⟩, ⟨some 15, some (13, false), .ld false 1 (.t 14)⟩, ⟨some 16, some (13, false), .bin (.gtr) (.t 15) (.c (.int (.i64) 6))⟩, ⟨some 17, none, .pick (.t 13) (.c (.bool true)) (.t 16)⟩, ⟨some 18, none, .mov (.t 17)⟩, ⟨some 19, some (18, false), .fa 0 0 (.t 2)⟩, ⟨some 20, some (18, false), .ld false 1 (.t 19)⟩, ⟨some 21, some (18, false), .bin (.eql) (.t 20) (.c (.int (.i64) 1))⟩, ⟨some 22, some (18, false), .fa 1 1 (.t 2)⟩, ⟨some 23, some (18, false), .ld false 1 (.t 22)⟩, ⟨some 24, some (18, false), .bin (.neq) (.t 23) (.c (.str []))⟩, ⟨some 25, some (18, false), .beq true (.t 21) (.t 24)⟩, ⟨some 26, none, .pick (.t 18) (.c (.bool true)) (.t 25)⟩] [6, 7, 8, 9, 10, 11, 12, 13, 14, 15, 16, 17, 18, 19, 20, 21, 22, 23, 24, 25]
@[simp] theorem ref16_Expr_c1_eq {K : AK} {env : Env} {H : AHeap} : aw PP ref16_Expr_c1 K env H = awOps PP [⟨some 6, none, .mov (.t 1)⟩, ⟨some 7, none, .bin (.lss) (.t 6) (.c (.int (.i64) 1))⟩, ⟨some 8, none, .mov (.t 7)⟩, ⟨some 9, some (8, false), .fa 0 0 (.t 2)⟩, ⟨some 10, some (8, false), .ld false 1 (.t 9)⟩, ⟨some 11, some (8, false), .bin (.lss) (.t 10) (.c (.int (.i64) 1))⟩, ⟨some 12, none, .pick (.t 8) (.c (.bool true)) (.t 11)⟩, ⟨some 13, none, .mov (.t 12)⟩, ⟨some 14, some (13, false), .fa 0 0 (.t 2)⟩, ⟨some 15, some (13, false), .ld false 1 (.t 14)⟩, ⟨some 16, some (13, false), .bin (.gtr) (.t 15) (.c (.int (.i64) 6))⟩, ⟨some 17, none, .pick (.t 13) (.c (.bool true)) (.t 16)⟩, ⟨some 18, none, .mov (.t 17)⟩, ⟨some 19, some (18, false), .fa 0 0 (.t 2)⟩, ⟨some 20, some (18, false), .ld false 1 (.t 19)⟩, ⟨some 21, some (18, false), .bin (.eql) (.t 20) (.c (.int (.i64) 1))⟩, ⟨some 22, some (18, false), .fa 1 1 (.t 2)⟩, ⟨some 23, some (18, false), .ld false 1 (.t 22)⟩, ⟨some 24, some (18, false), .bin (.neq) (.t 23) (.c (.str []))⟩, ⟨some 25, some (18, false), .beq true (.t 21) (.t 24)⟩, ⟨some 26, none, .pick (.t 18) (.c (.bool true)) (.t 25)⟩] (regK K [6, 7, 8, 9, 10, 11, 12, 13, 14, 15, 16, 17, 18, 19, 20, 21, 22, 23, 24, 25]) (panK K) env H := aw_reg _ _
def ref16_Expr_c2 : AC := .reg [⟨some 4, none, .mov (.c (.bool false))⟩] [1, 2, 26]
@[simp] theorem ref16_Expr_c2_eq {K : AK} {env : Env} {H : AHeap} : aw PP ref16_Expr_c2 K env H = awOps PP [⟨some 4, none, .mov (.c (.bool false))⟩] (regK K [1, 2, 26]) (panK K) env H := aw_reg _ _
def ref16_Expr_c3 : AC := .seq ref16_Expr_c2 .ret
@[simp] theorem ref16_Expr_c3_eq {K : AK} {env : Env} {H : AHeap} : aw PP ref16_Expr_c3 K env H = aw PP ref16_Expr_c2 (seqK PP .ret K) env H := aw_seq ref16_Expr_c2 .ret
def ref16_Expr_c4 : AC := .cond (.t 26) ref16_Expr_c3 .skip
@[simp] theorem ref16_Expr_c4_eq {K : AK} {env : Env} {H : AHeap} : aw PP ref16_Expr_c4 K env H = condQ PP (Opd.ev env (.t 26)) ref16_Expr_c3 .skip K env H := aw_cond _ ref16_Expr_c3 .skip
def ref16_Expr_c5 : AC := .seq ref16_Expr_c1 ref16_Expr_c4
@[simp] theorem ref16_Expr_c5_eq {K : AK} {env : Env} {H : AHeap} : aw PP ref16_Expr_c5 K env H = aw PP ref16_Expr_c1 (seqK PP ref16_Expr_c4 K) env H := aw_seq ref16_Expr_c1 ref16_Expr_c4
def ref16_Expr_c6 : AC := .reg [⟨some 27, none, .fa 0 0 (.t 2)⟩, ⟨some 28, none, .ld false 1 (.t 27)⟩] [26, 27]
@[simp] theorem ref16_Expr_c6_eq {K : AK} {env : Env} {H : AHeap} : aw PP ref16_Expr_c6 K env H = awOps PP [⟨some 27, none, .fa 0 0 (.t 2)⟩, ⟨some 28, none, .ld false 1 (.t 27)⟩] (regK K [26, 27]) (panK K) env H := aw_reg _ _
def ref16_Expr_c7 : AC := .reg [⟨some 34, none, .bin (.eql) (.t 28) (.c (.int (.i64) 1))⟩, ⟨some 33, none, .mov (.t 34)⟩] [34]
@[simp] theorem ref16_Expr_c7_eq {K : AK} {env : Env} {H : AHeap} : aw PP ref16_Expr_c7 K env H = awOps PP [⟨some 34, none, .bin (.eql) (.t 28) (.c (.int (.i64) 1))⟩, ⟨some 33, none, .mov (.t 34)⟩] (regK K [34]) (panK K) env H := aw_reg _ _
def ref16_Expr_c8 : AC := .reg [⟨some 35, none, .fa 1 1 (.t 2)⟩, ⟨some 36, none, .ld false 1 (.t 35)⟩, ⟨some 37, none, .call (.c (.fn (.func 36) [] [])) [.t 36]⟩, ⟨some 38, none, .not (.t 37)⟩, ⟨some 39, none, .mov (.t 38)⟩, ⟨some 40, some (39, false), .fa 2 2 (.t 2)⟩, ⟨some 41, some (39, false), .ld false 1 (.t 40)⟩, ⟨some 42, some (39, false), .lenl (.t 41)⟩, ⟨some 43, some (39, false), .bin (.neq) (.t 42) (.c (.int (.i64) 0))⟩, ⟨some 44, none, .pick (.t 39) (.c (.bool true)) (.t 43)⟩] [28, 33, 35, 36, 37, 38, 39, 40, 41, 42, 43]
@[simp] theorem ref16_Expr_c8_eq {K : AK} {env : Env} {H : AHeap} : aw PP ref16_Expr_c8 K env H = awOps PP [⟨some 35, none, .fa 1 1 (.t 2)⟩, ⟨some 36, none, .ld false 1 (.t 35)⟩, ⟨some 37, none, .call (.c (.fn (.func 36) [] [])) [.t 36]⟩, ⟨some 38, none, .not (.t 37)⟩, ⟨some 39, none, .mov (.t 38)⟩, ⟨some 40, some (39, false), .fa 2 2 (.t 2)⟩, ⟨some 41, some (39, false), .ld false 1 (.t 40)⟩, ⟨some 42, some (39, false), .lenl (.t 41)⟩, ⟨some 43, some (39, false), .bin (.neq) (.t 42) (.c (.int (.i64) 0))⟩, ⟨some 44, none, .pick (.t 39) (.c (.bool true)) (.t 43)⟩] (regK K [28, 33, 35, 36, 37, 38, 39, 40, 41, 42, 43]) (panK K) env H := aw_reg _ _
def ref16_Expr_c9 : AC := .reg [⟨some 4, none, .mov (.c (.bool false))⟩] [1, 2, 44]
@[simp] theorem ref16_Expr_c9_eq {K : AK} {env : Env} {H : AHeap} : aw PP ref16_Expr_c9 K env H = awOps PP [⟨some 4, none, .mov (.c (.bool false))⟩] (regK K [1, 2, 44]) (panK K) env H := aw_reg _ _
def ref16_Expr_c10 : AC := .seq ref16_Expr_c9 .ret
@[simp] theorem ref16_Expr_c10_eq {K : AK} {env : Env} {H : AHeap} : aw PP ref16_Expr_c10 K env H = aw PP ref16_Expr_c9 (seqK PP .ret K) env H := aw_seq ref16_Expr_c9 .ret
def ref16_Expr_c11 : AC := .cond (.t 44) ref16_Expr_c10 .skip
@[simp] theorem ref16_Expr_c11_eq {K : AK} {env : Env} {H : AHeap} : aw PP ref16_Expr_c11 K env H = condQ PP (Opd.ev env (.t 44)) ref16_Expr_c10 .skip K env H := aw_cond _ ref16_Expr_c10 .skip
def ref16_Expr_c12 : AC := .seq ref16_Expr_c8 ref16_Expr_c11
@[simp] theorem ref16_Expr_c12_eq {K : AK} {env : Env} {H : AHeap} : aw PP ref16_Expr_c12 K env H = aw PP ref16_Expr_c8 (seqK PP ref16_Expr_c11 K) env H := aw_seq ref16_Expr_c8 ref16_Expr_c11
def ref16_Expr_c13 : AC := .reg [⟨some 46, none, .bin (.eql) (.t 28) (.c (.int (.i64) 2))⟩, ⟨some 45, none, .mov (.t 46)⟩] [33, 46]
@[simp] theorem ref16_Expr_c13_eq {K : AK} {env : Env} {H : AHeap} : aw PP ref16_Expr_c13 K env H = awOps PP [⟨some 46, none, .bin (.eql) (.t 28) (.c (.int (.i64) 2))⟩, ⟨some 45, none, .mov (.t 46)⟩] (regK K [33, 46]) (panK K) env H := aw_reg _ _
def ref16_Expr_c14 : AC := .reg [⟨some 47, none, .fa 2 2 (.t 2)⟩, ⟨some 48, none, .ld false 1 (.t 47)⟩, ⟨some 49, none, .lenl (.t 48)⟩, ⟨some 50, none, .bin (.eql) (.t 49) (.c (.int (.i64) 1))⟩] [28, 45, 47, 48, 49]
@[simp] theorem ref16_Expr_c14_eq {K : AK} {env : Env} {H : AHeap} : aw PP ref16_Expr_c14 K env H = awOps PP [⟨some 47, none, .fa 2 2 (.t 2)⟩, ⟨some 48, none, .ld false 1 (.t 47)⟩, ⟨some 49, none, .lenl (.t 48)⟩, ⟨some 50, none, .bin (.eql) (.t 49) (.c (.int (.i64) 1))⟩] (regK K [28, 45, 47, 48, 49]) (panK K) env H := aw_reg _ _
def ref16_Expr_c15 : AC := .reg [⟨some 4, none, .mov (.c (.bool false))⟩] [1, 2, 50]
@[simp] theorem ref16_Expr_c15_eq {K : AK} {env : Env} {H : AHeap} : aw PP ref16_Expr_c15 K env H = awOps PP [⟨some 4, none, .mov (.c (.bool false))⟩] (regK K [1, 2, 50]) (panK K) env H := aw_reg _ _
def ref16_Expr_c16 : AC := .seq ref16_Expr_c15 .ret
@[simp] theorem ref16_Expr_c16_eq {K : AK} {env : Env} {H : AHeap} : aw PP ref16_Expr_c16 K env H = aw PP ref16_Expr_c15 (seqK PP .ret K) env H := aw_seq ref16_Expr_c15 .ret
def ref16_Expr_c17 : AC := .cond (.t 50) ref16_Expr_c16 .skip
@[simp] theorem ref16_Expr_c17_eq {K : AK} {env : Env} {H : AHeap} : aw PP ref16_Expr_c17 K env H = condQ PP (Opd.ev env (.t 50)) ref16_Expr_c16 .skip K env H := aw_cond _ ref16_Expr_c16 .skip
def ref16_Expr_c18 : AC := .seq ref16_Expr_c14 ref16_Expr_c17
@[simp] theorem ref16_Expr_c18_eq {K : AK} {env : Env} {H : AHeap} : aw PP ref16_Expr_c18 K env H = aw PP ref16_Expr_c14 (seqK PP ref16_Expr_c17 K) env H := aw_seq ref16_Expr_c14 ref16_Expr_c17
def ref16_Expr_c19 : AC := .reg [⟨some 52, none, .bin (.eql) (.t 28) (.c (.int (.i64) 3))⟩, ⟨some 51, none, .mov (.t 52)⟩] [28, 45, 52]
@[simp] theorem ref16_Expr_c19_eq {K : AK} {env : Env} {H : AHeap} : aw PP ref16_Expr_c19 K env H = awOps PP [⟨some 52, none, .bin (.eql) (.t 28) (.c (.int (.i64) 3))⟩, ⟨some 51, none, .mov (.t 52)⟩] (regK K [28, 45, 52]) (panK K) env H := aw_reg _ _
def ref16_Expr_c20 : AC := .reg [⟨some 53, none, .fa 2 2 (.t 2)⟩, ⟨some 54, none, .ld false 1 (.t 53)⟩, ⟨some 55, none, .lenl (.t 54)⟩, ⟨some 56, none, .bin (.lss) (.t 55) (.c (.int (.i64) 2))⟩] [51, 53, 54, 55]
@[simp] theorem ref16_Expr_c20_eq {K : AK} {env : Env} {H : AHeap} : aw PP ref16_Expr_c20 K env H = awOps PP [⟨some 53, none, .fa 2 2 (.t 2)⟩, ⟨some 54, none, .ld false 1 (.t 53)⟩, ⟨some 55, none, .lenl (.t 54)⟩, ⟨some 56, none, .bin (.lss) (.t 55) (.c (.int (.i64) 2))⟩] (regK K [51, 53, 54, 55]) (panK K) env H := aw_reg _ _
def ref16_Expr_c21 : AC := .reg [⟨some 4, none, .mov (.c (.bool false))⟩] [1, 2, 56]
@[simp] theorem ref16_Expr_c21_eq {K : AK} {env : Env} {H : AHeap} : aw PP ref16_Expr_c21 K env H = awOps PP [⟨some 4, none, .mov (.c (.bool false))⟩] (regK K [1, 2, 56]) (panK K) env H := aw_reg _ _
def ref16_Expr_c22 : AC := .seq ref16_Expr_c21 .ret
@[simp] theorem ref16_Expr_c22_eq {K : AK} {env : Env} {H : AHeap} : aw PP ref16_Expr_c22 K env H = aw PP ref16_Expr_c21 (seqK PP .ret K) env H := aw_seq ref16_Expr_c21 .ret
def ref16_Expr_c23 : AC := .cond (.t 56) ref16_Expr_c22 .skip
@[simp] theorem ref16_Expr_c23_eq {K : AK} {env : Env} {H : AHeap} : aw PP ref16_Expr_c23 K env H = condQ PP (Opd.ev env (.t 56)) ref16_Expr_c22 .skip K env H := aw_cond _ ref16_Expr_c22 .skip
def ref16_Expr_c24 : AC := .seq ref16_Expr_c20 ref16_Expr_c23
@[simp] theorem ref16_Expr_c24_eq {K : AK} {env : Env} {H : AHeap} : aw PP ref16_Expr_c24 K env H = aw PP ref16_Expr_c20 (seqK PP ref16_Expr_c23 K) env H := aw_seq ref16_Expr_c20 ref16_Expr_c23
def ref16_Expr_c25 : AC := .reg [⟨some 29, none, .fa 2 2 (.t 2)⟩, ⟨some 30, none, .ld false 1 (.t 29)⟩, ⟨some 31, none, .lenl (.t 30)⟩, ⟨some 32, none, .bin (.neq) (.t 31) (.c (.int (.i64) 1))⟩] [29, 30, 31, 51]
@[simp] theorem ref16_Expr_c25_eq {K : AK} {env : Env} {H : AHeap} : aw PP ref16_Expr_c25 K env H = awOps PP [⟨some 29, none, .fa 2 2 (.t 2)⟩, ⟨some 30, none, .ld false 1 (.t 29)⟩, ⟨some 31, none, .lenl (.t 30)⟩, ⟨some 32, none, .bin (.neq) (.t 31) (.c (.int (.i64) 1))⟩] (regK K [29, 30, 31, 51]) (panK K) env H := aw_reg _ _
def ref16_Expr_c26 : AC := .reg [⟨some 4, none, .mov (.c (.bool false))⟩] [1, 2, 32]
@[simp] theorem ref16_Expr_c26_eq {K : AK} {env : Env} {H : AHeap} : aw PP ref16_Expr_c26 K env H = awOps PP [⟨some 4, none, .mov (.c (.bool false))⟩] (regK K [1, 2, 32]) (panK K) env H := aw_reg _ _
def ref16_Expr_c27 : AC := .seq ref16_Expr_c26 .ret
@[simp] theorem ref16_Expr_c27_eq {K : AK} {env : Env} {H : AHeap} : aw PP ref16_Expr_c27 K env H = aw PP ref16_Expr_c26 (seqK PP .ret K) env H := aw_seq ref16_Expr_c26 .ret
def ref16_Expr_c28 : AC := .cond (.t 32) ref16_Expr_c27 .skip
@[simp] theorem ref16_Expr_c28_eq {K : AK} {env : Env} {H : AHeap} : aw PP ref16_Expr_c28 K env H = condQ PP (Opd.ev env (.t 32)) ref16_Expr_c27 .skip K env H := aw_cond _ ref16_Expr_c27 .skip
def ref16_Expr_c29 : AC := .seq ref16_Expr_c25 ref16_Expr_c28
@[simp] theorem ref16_Expr_c29_eq {K : AK} {env : Env} {H : AHeap} : aw PP ref16_Expr_c29 K env H = aw PP ref16_Expr_c25 (seqK PP ref16_Expr_c28 K) env H := aw_seq ref16_Expr_c25 ref16_Expr_c28
def ref16_Expr_c30 : AC := .cond (.t 51) ref16_Expr_c24 ref16_Expr_c29
@[simp] theorem ref16_Expr_c30_eq {K : AK} {env : Env} {H : AHeap} : aw PP ref16_Expr_c30 K env H = condQ PP (Opd.ev env (.t 51)) ref16_Expr_c24 ref16_Expr_c29 K env H := aw_cond _ ref16_Expr_c24 ref16_Expr_c29
def ref16_Expr_c31 : AC := .seq ref16_Expr_c19 ref16_Expr_c30
@[simp] theorem ref16_Expr_c31_eq {K : AK} {env : Env} {H : AHeap} : aw PP ref16_Expr_c31 K env H = aw PP ref16_Expr_c19 (seqK PP ref16_Expr_c30 K) env H := aw_seq ref16_Expr_c19 ref16_Expr_c30
def ref16_Expr_c32 : AC := .cond (.t 45) ref16_Expr_c18 ref16_Expr_c31
@[simp] theorem ref16_Expr_c32_eq {K : AK} {env : Env} {H : AHeap} : aw PP ref16_Expr_c32 K env H = condQ PP (Opd.ev env (.t 45)) ref16_Expr_c18 ref16_Expr_c31 K env H := aw_cond _ ref16_Expr_c18 ref16_Expr_c31
def ref16_Expr_c33 : AC := .seq ref16_Expr_c13 ref16_Expr_c32
@[simp] theorem ref16_Expr_c33_eq {K : AK} {env : Env} {H : AHeap} : aw PP ref16_Expr_c33 K env H = aw PP ref16_Expr_c13 (seqK PP ref16_Expr_c32 K) env H := aw_seq ref16_Expr_c13 ref16_Expr_c32
def ref16_Expr_c34 : AC := .cond (.t 33) ref16_Expr_c12 ref16_Expr_c33
@[simp] theorem ref16_Expr_c34_eq {K : AK} {env : Env} {H : AHeap} : aw PP ref16_Expr_c34 K env H = condQ PP (Opd.ev env (.t 33)) ref16_Expr_c12 ref16_Expr_c33 K env H := aw_cond _ ref16_Expr_c12 ref16_Expr_c33
def ref16_Expr_c35 : AC := .seq ref16_Expr_c7 ref16_Expr_c34
@[simp] theorem ref16_Expr_c35_eq {K : AK} {env : Env} {H : AHeap} : aw PP ref16_Expr_c35 K env H = aw PP ref16_Expr_c7 (seqK PP ref16_Expr_c34 K) env H := aw_seq ref16_Expr_c7 ref16_Expr_c34
def ref16_Expr_c36 : AC := .block 0 ref16_Expr_c35
@[simp] theorem ref16_Expr_c36_eq {K : AK} {env : Env} {H : AHeap} : aw PP ref16_Expr_c36 K env H = aw PP ref16_Expr_c35 (blockK 0 K) env H := aw_block _ ref16_Expr_c35
def ref16_Expr_c37 : AC := .seq ref16_Expr_c6 ref16_Expr_c36
@[simp] theorem ref16_Expr_c37_eq {K : AK} {env : Env} {H : AHeap} : aw PP ref16_Expr_c37 K env H = aw PP ref16_Expr_c6 (seqK PP ref16_Expr_c36 K) env H := aw_seq ref16_Expr_c6 ref16_Expr_c36
def ref16_Expr_c38 : AC := .reg [⟨some 5, none, .mov (.c (.int (.i64) 0))⟩] [32, 44, 50, 56]
@[simp] theorem ref16_Expr_c38_eq {K : AK} {env : Env} {H : AHeap} : aw PP ref16_Expr_c38 K env H = awOps PP [⟨some 5, none, .mov (.c (.int (.i64) 0))⟩] (regK K [32, 44, 50, 56]) (panK K) env H := aw_reg _ _
def ref16_Expr_c39 : AC := .reg [⟨some 57, none, .mov (.t 5)⟩, ⟨some 58, none, .fa 2 2 (.t 2)⟩, ⟨some 59, none, .ld false 1 (.t 58)⟩, ⟨some 60, none, .lenl (.t 59)⟩, ⟨some 61, none, .bin (.lss) (.t 57) (.t 60)⟩] [57, 58, 59, 60]
@[simp] theorem ref16_Expr_c39_eq {K : AK} {env : Env} {H : AHeap} : aw PP ref16_Expr_c39 K env H = awOps PP [⟨some 57, none, .mov (.t 5)⟩, ⟨some 58, none, .fa 2 2 (.t 2)⟩, ⟨some 59, none, .ld false 1 (.t 58)⟩, ⟨some 60, none, .lenl (.t 59)⟩, ⟨some 61, none, .bin (.lss) (.t 57) (.t 60)⟩] (regK K [57, 58, 59, 60]) (panK K) env H := aw_reg _ _
def ref16_Expr_c40 : AC := .cond (.t 61) .skip (.exit 1)
@[simp] theorem ref16_Expr_c40_eq {K : AK} {env : Env} {H : AHeap} : aw PP ref16_Expr_c40 K env H = condQ PP (Opd.ev env (.t 61)) .skip (.exit 1) K env H := aw_cond _ .skip (.exit 1)
def ref16_Expr_c41 : AC := .seq ref16_Expr_c39 ref16_Expr_c40
@[simp] theorem ref16_Expr_c41_eq {K : AK} {env : Env} {H : AHeap} : aw PP ref16_Expr_c41 K env H = aw PP ref16_Expr_c39 (seqK PP ref16_Expr_c40 K) env H := aw_seq ref16_Expr_c39 ref16_Expr_c40
def ref16_Expr_c42 : AC := .reg [⟨some 64, none, .fa 2 2 (.t 2)⟩, ⟨some 65, none, .ld false 1 (.t 64)⟩, ⟨some 66, none, .mov (.t 5)⟩, ⟨some 67, none, .ixa 3 (.t 65) (.t 66)⟩, ⟨some 68, none, .ld true 3 (.t 67)⟩, ⟨some 69, none, .mov (.t 1)⟩, ⟨some 70, none, .bin (.sub) (.t 69) (.c (.int (.i64) 1))⟩, ⟨some 71, none, .call (.c (.fn (.func 37) [] [])) [.t 68, .t 70]⟩, ⟨some 72, none, .not (.t 71)⟩] [61, 64, 65, 66, 67, 68, 69, 70, 71]
@[simp] theorem ref16_Expr_c42_eq {K : AK} {env : Env} {H : AHeap} : aw PP ref16_Expr_c42 K env H = awOps PP [⟨some 64, none, .fa 2 2 (.t 2)⟩, ⟨some 65, none, .ld false 1 (.t 64)⟩, ⟨some 66, none, .mov (.t 5)⟩, ⟨some 67, none, .ixa 3 (.t 65) (.t 66)⟩, ⟨some 68, none, .ld true 3 (.t 67)⟩, ⟨some 69, none, .mov (.t 1)⟩, ⟨some 70, none, .bin (.sub) (.t 69) (.c (.int (.i64) 1))⟩, ⟨some 71, none, .call (.c (.fn (.func 37) [] [])) [.t 68, .t 70]⟩, ⟨some 72, none, .not (.t 71)⟩] (regK K [61, 64, 65, 66, 67, 68, 69, 70, 71]) (panK K) env H := aw_reg _ _
def ref16_Expr_c43 : AC := .reg [⟨some 4, none, .mov (.c (.bool false))⟩] [1, 2, 5, 72]
@[simp] theorem ref16_Expr_c43_eq {K : AK} {env : Env} {H : AHeap} : aw PP ref16_Expr_c43 K env H = awOps PP [⟨some 4, none, .mov (.c (.bool false))⟩] (regK K [1, 2, 5, 72]) (panK K) env H := aw_reg _ _
def ref16_Expr_c44 : AC := .seq ref16_Expr_c43 .ret
@[simp] theorem ref16_Expr_c44_eq {K : AK} {env : Env} {H : AHeap} : aw PP ref16_Expr_c44 K env H = aw PP ref16_Expr_c43 (seqK PP .ret K) env H := aw_seq ref16_Expr_c43 .ret
def ref16_Expr_c45 : AC := .cond (.t 72) ref16_Expr_c44 .skip
@[simp] theorem ref16_Expr_c45_eq {K : AK} {env : Env} {H : AHeap} : aw PP ref16_Expr_c45 K env H = condQ PP (Opd.ev env (.t 72)) ref16_Expr_c44 .skip K env H := aw_cond _ ref16_Expr_c44 .skip
def ref16_Expr_c46 : AC := .seq ref16_Expr_c42 ref16_Expr_c45
@[simp] theorem ref16_Expr_c46_eq {K : AK} {env : Env} {H : AHeap} : aw PP ref16_Expr_c46 K env H = aw PP ref16_Expr_c42 (seqK PP ref16_Expr_c45 K) env H := aw_seq ref16_Expr_c42 ref16_Expr_c45
def ref16_Expr_c47 : AC := .block 2 ref16_Expr_c46
@[simp] theorem ref16_Expr_c47_eq {K : AK} {env : Env} {H : AHeap} : aw PP ref16_Expr_c47 K env H = aw PP ref16_Expr_c46 (blockK 2 K) env H := aw_block _ ref16_Expr_c46
def ref16_Expr_c48 : AC := .reg [⟨some 62, none, .mov (.t 5)⟩, ⟨some 63, none, .bin (.add) (.t 62) (.c (.int (.i64) 1))⟩, ⟨some 5, none, .mov (.t 63)⟩] [62, 63, 72]
@[simp] theorem ref16_Expr_c48_eq {K : AK} {env : Env} {H : AHeap} : aw PP ref16_Expr_c48 K env H = awOps PP [⟨some 62, none, .mov (.t 5)⟩, ⟨some 63, none, .bin (.add) (.t 62) (.c (.int (.i64) 1))⟩, ⟨some 5, none, .mov (.t 63)⟩] (regK K [62, 63, 72]) (panK K) env H := aw_reg _ _
def ref16_Expr_c49 : AC := .seq ref16_Expr_c47 ref16_Expr_c48
@[simp] theorem ref16_Expr_c49_eq {K : AK} {env : Env} {H : AHeap} : aw PP ref16_Expr_c49 K env H = aw PP ref16_Expr_c47 (seqK PP ref16_Expr_c48 K) env H := aw_seq ref16_Expr_c47 ref16_Expr_c48
def ref16_Expr_c50 : AC := .seq ref16_Expr_c41 ref16_Expr_c49
@[simp] theorem ref16_Expr_c50_eq {K : AK} {env : Env} {H : AHeap} : aw PP ref16_Expr_c50 K env H = aw PP ref16_Expr_c41 (seqK PP ref16_Expr_c49 K) env H := aw_seq ref16_Expr_c41 ref16_Expr_c49
def ref16_Expr_c51 : AC := .loop ref16_Expr_c50
def ref16_Expr_c52 : AC := .block 1 ref16_Expr_c51
@[simp] theorem ref16_Expr_c52_eq {K : AK} {env : Env} {H : AHeap} : aw PP ref16_Expr_c52 K env H = aw PP ref16_Expr_c51 (blockK 1 K) env H := aw_block _ ref16_Expr_c51
def ref16_Expr_c53 : AC := .seq ref16_Expr_c38 ref16_Expr_c52
@[simp] theorem ref16_Expr_c53_eq {K : AK} {env : Env} {H : AHeap} : aw PP ref16_Expr_c53 K env H = aw PP ref16_Expr_c38 (seqK PP ref16_Expr_c52 K) env H := aw_seq ref16_Expr_c38 ref16_Expr_c52
def ref16_Expr_c54 : AC := .reg [⟨some 4, none, .mov (.c (.bool true))⟩] [1, 2, 5, 61]
@[simp] theorem ref16_Expr_c54_eq {K : AK} {env : Env} {H : AHeap} : aw PP ref16_Expr_c54 K env H = awOps PP [⟨some 4, none, .mov (.c (.bool true))⟩] (regK K [1, 2, 5, 61]) (panK K) env H := aw_reg _ _
def ref16_Expr_c55 : AC := .seq ref16_Expr_c54 .ret
@[simp] theorem ref16_Expr_c55_eq {K : AK} {env : Env} {H : AHeap} : aw PP ref16_Expr_c55 K env H = aw PP ref16_Expr_c54 (seqK PP .ret K) env H := aw_seq ref16_Expr_c54 .ret
def ref16_Expr_c56 : AC := .seq ref16_Expr_c53 ref16_Expr_c55
@[simp] theorem ref16_Expr_c56_eq {K : AK} {env : Env} {H : AHeap} : aw PP ref16_Expr_c56 K env H = aw PP ref16_Expr_c53 (seqK PP ref16_Expr_c55 K) env H := aw_seq ref16_Expr_c53 ref16_Expr_c55
def ref16_Expr_c57 : AC := .seq ref16_Expr_c37 ref16_Expr_c56
@[simp] theorem ref16_Expr_c57_eq {K : AK} {env : Env} {H : AHeap} : aw PP ref16_Expr_c57 K env H = aw PP ref16_Expr_c37 (seqK PP ref16_Expr_c56 K) env H := aw_seq ref16_Expr_c37 ref16_Expr_c56
def ref16_Expr_c58 : AC := .seq ref16_Expr_c5 ref16_Expr_c57
@[simp] theorem ref16_Expr_c58_eq {K : AK} {env : Env} {H : AHeap} : aw PP ref16_Expr_c58 K env H = aw PP ref16_Expr_c5 (seqK PP ref16_Expr_c57 K) env H := aw_seq ref16_Expr_c5 ref16_Expr_c57
def ref16_Expr_c59 : AC := .seq ref16_Expr_c0 ref16_Expr_c58
@[simp] theorem ref16_Expr_c59_eq {K : AK} {env : Env} {H : AHeap} : aw PP ref16_Expr_c59 K env H = aw PP ref16_Expr_c0 (seqK PP ref16_Expr_c58 K) env H := aw_seq ref16_Expr_c0 ref16_Expr_c58
def ref16_Expr_ac : AC := ref16_Expr_c59
@[simp] theorem ref16_Expr_ac_eq {K : AK} {env : Env} {H : AHeap} : aw PP ref16_Expr_ac K env H = aw PP ref16_Expr_c59 K env H := Eq.trans rfl rfl
def ref16_Expr_rs : List ARV := [.tmp 4]
abbrev ref16_Expr_id : Nat := 37
theorem ref16_Expr_comp : compF PP ref16_Expr_kl ref16_Expr_ow 2 Try.f37 = some (ref16_Expr_ac, ref16_Expr_rs) := by kernel_rfl
theorem ref16_Expr_enter {args : List AV} {H : AHeap} {post : ARes → AHeap → Prop} (ha : args.length = 2) (h : aw PP ref16_Expr_ac (retK ref16_Expr_rs post) (argEnv 0 args) H) : ACalls PP ref16_Expr_id args H post := .enterF Try.func37 PP_mix ref16_Expr_comp ha h

end Go.Av
