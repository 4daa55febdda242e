/- Part of the proof: C22. No condition. -/
import Derived.Test.YtondhmpdmbjmdaaDoorFnsW
import Derived.Test.YtondhmpdmbjmdaaDoorPa
import Derived.Test.YtondhmpdmbjmdaaDoorC21
import Derived.KernelRfl
set_option linter.unusedVariables false
set_option linter.unusedSimpArgs false
namespace Go.Av
open Go Go.Proofs

theorem awake1 : parseM [115, 116, 97, 114, 116, 32, 101, 59, 32, 108, 101, 102, 116, 32, 112, 108, 117, 115, 59, 32, 101, 32, 61, 32, 101, 32, 112, 108, 117, 115, 32, 101, 32, 112, 114, 105, 99, 101, 32, 50, 32, 124, 32, 110, 59] =
    (⟨[101], [⟨1, [[112, 108, 117, 115]]⟩], [⟨[101], [⟨.mk 2 [] [.mk 1 [101] [], .mk 1 [112, 108, 117, 115] [], .mk 1 [101] []], 2⟩, ⟨.mk 1 [110] [], 0⟩]⟩]⟩, 0, 0) := by kernel_rfl
theorem awake2 : parseM [115, 116, 97, 114, 116, 32, 101] = (⟨[], [], []⟩, 7, 3) := by kernel_rfl
theorem awake3 : parseM [115, 116, 97, 114, 116, 32, 101, 59, 32, 101, 32, 61, 32, 59, 59] = (⟨[], [], []⟩, 14, 3) := by kernel_rfl

set_option maxRecDepth 20000 in
set_option maxHeartbeats 1000000 in
theorem law_awake (H : AHeap) : Pure lT_awake_id [] H (.bool true) := by
  refine lT_awake_enter rfl ?_
  simp [lT_awake_rs, -lT_awake_c14_eq]
  simp [-lT_awake_c13_eq]
  refine (gp_Parse _ (by simp) H).use ?_
  rw [awake1]
  simp [allocQ, -lT_awake_c13_eq]
  intro b1 hb1
  generalize hf : (⟨[101], [⟨1, [[112, 108, 117, 115]]⟩], [⟨[101], [⟨.mk 2 [] [.mk 1 [101] [], .mk 1 [112, 108, 117, 115] [], .mk 1 [101] []], 2⟩, ⟨.mk 1 [110] [], 0⟩]⟩]⟩ : GF) = f
  have q1 : (H.set b1 (.box f.av)) b1 = some (.box (.struct [.str [101], .list 2 [GL.av ⟨1, [[112, 108, 117, 115]]⟩], .list 2 [.struct [.str [101], .list 4 [.struct [(GE.mk 2 [] [.mk 1 [101] [], .mk 1 [112, 108, 117, 115] [], .mk 1 [101] []]).av, i64 2], .struct [.struct [i64 1, .str [110], .list 3 []], i64 0]]]]])) := by
    rw [AHeap.set_same, ← hf]
    simp [GF.av, GR.av, GA.av, GE.av_mk]
  have hl1 : HLe H (H.set b1 (.box f.av)) := .set hb1
  generalize H.set b1 (.box f.av) = H1 at q1 hl1 ⊢
  simp [-lT_awake_c12_eq]
  refine (gp_Parse _ (by simp) H1).use ?_
  rw [awake2]
  simp [allocQ, -lT_awake_c12_eq]
  intro b2 hb2
  have n12 : b1 ≠ b2 := ne_of_some_none q1 hb2
  have q2 : ∀ o, (H1.set b2 o) b1 = _ := fun o => (AHeap.set_ne _ _ n12).trans q1
  have hl2 : HLe H (H1.set b2 (.box (GF.av ⟨[], [], []⟩))) := hl1.trans (.set hb2)
  have q2 := q2 (.box (GF.av ⟨[], [], []⟩))
  generalize H1.set b2 (.box (GF.av ⟨[], [], []⟩)) = H2 at q2 hl2 ⊢
  simp [-lT_awake_c11_eq]
  refine (gp_Parse _ (by simp) H2).use ?_
  rw [awake3]
  simp [allocQ, -lT_awake_c11_eq]
  intro b3 hb3
  have n13 : b1 ≠ b3 := ne_of_some_none q2 hb3
  have q3 : ∀ o, (H2.set b3 o) b1 = _ := fun o => (AHeap.set_ne _ _ n13).trans q2
  have hl3 : HLe H (H2.set b3 (.box (GF.av ⟨[], [], []⟩))) := hl2.trans (.set hb3)
  have q3 := q3 (.box (GF.av ⟨[], [], []⟩))
  generalize H2.set b3 (.box (GF.av ⟨[], [], []⟩)) = H3 at q3 hl3 ⊢
  have hml := maxLen_eq
  have m1 : 1 ≤ maxLen := by rw [hml]; omega
  have m2 : 2 ≤ maxLen := by rw [hml]; omega
  clear hml
  simp [q3, m1, m2, -lT_awake_c7_eq]
  clear hb1 hb2 hb3 q1 hl1 hl2
  simp (config := { maxSteps := 5000000 }) [q3]
  exact hl3
end Go.Av
