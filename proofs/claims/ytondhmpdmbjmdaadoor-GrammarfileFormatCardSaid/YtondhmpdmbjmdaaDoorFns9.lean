/- Functions of the given program, compiled to the own form by program. -/
import Derived.Test.YtondhmpdmbjmdaaDoorProg
import Derived.KernelRfl
import Derived.Test.YtondhmpdmbjmdaaDoorAvF
import Derived.Test.YtondhmpdmbjmdaaDoorFns9a
set_option linter.unusedVariables false
set_option linter.unusedSimpArgs false
namespace Go.Av
open Go Go.Proofs
variable {K : AK} {env : Env} {H : AHeap}
-- taken in parts: emendate.grammarparser.Parse$1
def gP_Parse_1_kl : Nat → List Nat
  | 0 => [4]
  | 1 => [5]
  | 2 => [0, 1, 2, 3, 6, 7, 8, 9]
  | _ => []
def gP_Parse_1_ow : Nat → Nat → Bool := fun _ _ => false
abbrev gP_Parse_1_id : Nat := 47
def gP_Parse_1_c0 : AC := .reg [⟨some 5, none, .mov (.t 3)⟩, ⟨some 6, none, .ieqn true (.t 5)⟩] [5]
@[simp] theorem gP_Parse_1_c0_eq : aw PP gP_Parse_1_c0 K env H = awOps PP [⟨some 5, none, .mov (.t 3)⟩, ⟨some 6, none, .ieqn true (.t 5)⟩] (regK K [5]) (panK K) env H := aw_reg _ _
def gP_Parse_1_c1_ops : List (AI × List Nat) := [(⟨some 7, none, .build [.str [], .nils, .nils] []⟩, []), (⟨some 8, none, .mov (.t 3)⟩, []), (⟨some 9, none, .tas 80 (.t 8)⟩, [1]), (⟨none, none, .st 3 (.t 0) (.t 7)⟩, [0, 0]), (⟨none, none, .st 1 (.t 1) (.t 9)⟩, [2, 3, 0, 1, 2, 3]), (⟨none, none, .st 1 (.t 2) (.c (.int (.i64) 3))⟩, [4, 0, 1, 2, 3, 4])]
def gP_Parse_1_c1 : AC := .dreg gP_Parse_1_c1_ops [0, 1, 2, 3, 6, 7, 8, 9]
theorem gP_Parse_1_c1_okF : lexOKF gP_Parse_1_c1_ops 4 (fun i => [3, 4, 5].contains i) = true := by kernel_rfl
theorem gP_Parse_1_c1_lexF (B : List Nat) (h : awLexF PP 4 (fun i => [3, 4, 5].contains i) B H (regK K [0, 1, 2, 3, 6, 7, 8, 9]) (panK K) [(0, ⟨some 7, none, .build [.str [], .nils, .nils] []⟩), (1, ⟨some 8, none, .mov (.t 3)⟩), (2, ⟨some 9, none, .tas 80 (.t 8)⟩), (3, ⟨none, none, .st 3 (.t 0) (.t 7)⟩), (4, ⟨none, none, .st 1 (.t 1) (.t 9)⟩), (5, ⟨none, none, .st 1 (.t 2) (.c (.int (.i64) 3))⟩)] env H) : aw PP gP_Parse_1_c1 K env H := aw_dreg_lexF _ _ B gP_Parse_1_c1_okF h
def gP_Parse_1_c2 : AC := .cond (.t 6) gP_Parse_1_c1 .skip
@[simp] theorem gP_Parse_1_c2_eq : aw PP gP_Parse_1_c2 K env H = condQ PP (Opd.ev env (.t 6)) gP_Parse_1_c1 .skip K env H := aw_cond _ gP_Parse_1_c1 .skip
def gP_Parse_1_c3 : AC := .seq gP_Parse_1_c0 gP_Parse_1_c2
@[simp] theorem gP_Parse_1_c3_eq : aw PP gP_Parse_1_c3 K env H = aw PP gP_Parse_1_c0 (seqK PP gP_Parse_1_c2 K) env H := aw_seq gP_Parse_1_c0 gP_Parse_1_c2
def gP_Parse_1_p0_ac : AC := gP_Parse_1_c3
@[simp] theorem gP_Parse_1_p0_ac_eq : aw PP gP_Parse_1_p0_ac K env H = aw PP gP_Parse_1_c3 K env H := Eq.trans rfl rfl
theorem gP_Parse_1_p0_comp : comp PP gP_Parse_1_kl gP_Parse_1_ow 10 (codeAt (bodyOf Tryd.f47) [1]) = some gP_Parse_1_p0_ac := by kernel_rfl
def gP_Parse_1_rs : List ARV := []
theorem gP_Parse_1_rsc : compRes PP Tryd.f47.results.toList = some gP_Parse_1_rs := by kernel_rfl

end Go.Av
