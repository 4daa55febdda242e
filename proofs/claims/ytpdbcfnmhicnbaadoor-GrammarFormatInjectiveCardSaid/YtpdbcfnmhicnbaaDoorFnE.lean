/- Functions of the given program, compiled to the own form by program. -/
import Derived.Test.YtpdbcfnmhicnbaaDoorProg
import Derived.KernelRfl
import Derived.Test.YtpdbcfnmhicnbaaDoorAvF
import Derived.Test.YtpdbcfnmhicnbaaDoorFns1
set_option linter.unusedVariables false
set_option linter.unusedSimpArgs false
namespace Go.Av
open Go Go.Proofs
variable {K : AK} {env : Env} {H : AHeap}
-- taken in parts: (*strings.Builder).WriteString
def sB_WriteString_kl : Nat → List Nat
  | 0 => [4, 5]
  | 1 => [6, 7]
  | 2 => [0, 8, 9, 10, 11, 12, 13, 14, 15, 16]
  | 3 => [1, 17, 18]
  | _ => []
def sB_WriteString_ow : Nat → Nat → Bool := fun _ _ => false
abbrev sB_WriteString_id : Nat := 32
def sB_WriteString_c0 : AC := .reg [⟨some 4, none, .mov (.c (.int (.i64) 0))⟩, ⟨some 5, none, .mov (.c (.nili))⟩] [4, 5]
@[simp] theorem sB_WriteString_c0_eq : aw PP sB_WriteString_c0 K env H = awOps PP [⟨some 4, none, .mov (.c (.int (.i64) 0))⟩, ⟨some 5, none, .mov (.c (.nili))⟩] (regK K [4, 5]) (panK K) env H := aw_reg _ _
def sB_WriteString_p0_ac : AC := sB_WriteString_c0
@[simp] theorem sB_WriteString_p0_ac_eq : aw PP sB_WriteString_p0_ac K env H = aw PP sB_WriteString_c0 K env H := Eq.trans rfl rfl
theorem sB_WriteString_p0_comp : comp PP sB_WriteString_kl sB_WriteString_ow 19 (codeAt (bodyOf Tryd.f32) [0]) = some sB_WriteString_p0_ac := by kernel_rfl
def sB_WriteString_c1 : AC := .reg [⟨some 6, none, .mov (.t 0)⟩, ⟨some 7, none, .call (.c (.fn (.func 42) [] [])) [.t 6]⟩] [6, 7]
@[simp] theorem sB_WriteString_c1_eq : aw PP sB_WriteString_c1 K env H = awOps PP [⟨some 6, none, .mov (.t 0)⟩, ⟨some 7, none, .call (.c (.fn (.func 42) [] [])) [.t 6]⟩] (regK K [6, 7]) (panK K) env H := aw_reg _ _
def sB_WriteString_p1_ac : AC := sB_WriteString_c1
@[simp] theorem sB_WriteString_p1_ac_eq : aw PP sB_WriteString_p1_ac K env H = aw PP sB_WriteString_c1 K env H := Eq.trans rfl rfl
theorem sB_WriteString_p1_comp : comp PP sB_WriteString_kl sB_WriteString_ow 19 (codeAt (bodyOf Tryd.f32) [1, 0]) = some sB_WriteString_p1_ac := by kernel_rfl
def sB_WriteString_c2 : AC := .reg [⟨some 17, none, .mov (.t 1)⟩, ⟨some 18, none, .lens (.t 17)⟩, ⟨some 4, none, .mov (.t 18)⟩, ⟨some 5, none, .mov (.c (.nili))⟩] [1, 17, 18]
@[simp] theorem sB_WriteString_c2_eq : aw PP sB_WriteString_c2 K env H = awOps PP [⟨some 17, none, .mov (.t 1)⟩, ⟨some 18, none, .lens (.t 17)⟩, ⟨some 4, none, .mov (.t 18)⟩, ⟨some 5, none, .mov (.c (.nili))⟩] (regK K [1, 17, 18]) (panK K) env H := aw_reg _ _
def sB_WriteString_c3 : AC := .seq sB_WriteString_c2 .ret
@[simp] theorem sB_WriteString_c3_eq : aw PP sB_WriteString_c3 K env H = aw PP sB_WriteString_c2 (seqK PP .ret K) env H := aw_seq sB_WriteString_c2 .ret
def sB_WriteString_p2_ac : AC := sB_WriteString_c3
@[simp] theorem sB_WriteString_p2_ac_eq : aw PP sB_WriteString_p2_ac K env H = aw PP sB_WriteString_c3 K env H := Eq.trans rfl rfl
theorem sB_WriteString_p2_comp : comp PP sB_WriteString_kl sB_WriteString_ow 19 (codeAt (bodyOf Tryd.f32) [1, 1, 1]) = some sB_WriteString_p2_ac := by kernel_rfl
def sB_WriteString_rs : List ARV := [.tmp 4, .tmp 5]
theorem sB_WriteString_rsc : compRes PP Tryd.f32.results.toList = some sB_WriteString_rs := by kernel_rfl

/-! strings.Contains -/
def strings_Contains_kl : Nat → List Nat
  | 0 => [4]
  | 1 => [0, 1, 5, 6, 7, 8]
  | _ => []
def strings_Contains_ow : Nat → Nat → Bool := fun _ _ => false
def strings_Contains_c0 : AC := .reg [⟨some 4, none, .mov (.c (.bool false))⟩] [4]
@[simp] theorem strings_Contains_c0_eq : aw PP strings_Contains_c0 K env H = awOps PP [⟨some 4, none, .mov (.c (.bool false))⟩] (regK K [4]) (panK K) env H := aw_reg _ _
def strings_Contains_c1 : AC := .reg [⟨some 5, none, .mov (.t 0)⟩, ⟨some 6, none, .mov (.t 1)⟩, ⟨some 7, none, .call (.c (.fn (.func 50) [] [])) [.t 5, .t 6]⟩, ⟨some 8, none, .bin (.geq) (.t 7) (.c (.int (.i64) 0))⟩, ⟨some 4, none, .mov (.t 8)⟩] [0, 1, 5, 6, 7, 8]
@[simp] theorem strings_Contains_c1_eq : aw PP strings_Contains_c1 K env H = awOps PP [⟨some 5, none, .mov (.t 0)⟩, ⟨some 6, none, .mov (.t 1)⟩, ⟨some 7, none, .call (.c (.fn (.func 50) [] [])) [.t 5, .t 6]⟩, ⟨some 8, none, .bin (.geq) (.t 7) (.c (.int (.i64) 0))⟩, ⟨some 4, none, .mov (.t 8)⟩] (regK K [0, 1, 5, 6, 7, 8]) (panK K) env H := aw_reg _ _
def strings_Contains_c2 : AC := .seq strings_Contains_c1 .ret
@[simp] theorem strings_Contains_c2_eq : aw PP strings_Contains_c2 K env H = aw PP strings_Contains_c1 (seqK PP .ret K) env H := aw_seq strings_Contains_c1 .ret
def strings_Contains_c3 : AC := .seq strings_Contains_c0 strings_Contains_c2
@[simp] theorem strings_Contains_c3_eq : aw PP strings_Contains_c3 K env H = aw PP strings_Contains_c0 (seqK PP strings_Contains_c2 K) env H := aw_seq strings_Contains_c0 strings_Contains_c2
def strings_Contains_ac : AC := strings_Contains_c3
@[simp] theorem strings_Contains_ac_eq : aw PP strings_Contains_ac K env H = aw PP strings_Contains_c3 K env H := Eq.trans rfl rfl
def strings_Contains_rs : List ARV := [.tmp 4]
abbrev strings_Contains_id : Nat := 46
theorem strings_Contains_comp : compF PP strings_Contains_kl strings_Contains_ow 2 Tryd.f46 = some (strings_Contains_ac, strings_Contains_rs) := by kernel_rfl
theorem strings_Contains_enter {args : List AV} {H : AHeap} {post : ARes → AHeap → Prop} (ha : args.length = 2) (h : aw PP strings_Contains_ac (retK strings_Contains_rs post) (argEnv 0 args) H) : ACalls PP strings_Contains_id args H post := .enterF Tryd.func46 PP_mix strings_Contains_comp ha h

end Go.Av
