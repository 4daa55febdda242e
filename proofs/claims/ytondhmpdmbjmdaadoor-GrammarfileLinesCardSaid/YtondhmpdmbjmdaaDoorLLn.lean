/- GrammarfileLines: the law function. -/
import Derived.Test.YtondhmpdmbjmdaaDoorFnsLl
import Derived.Test.YtondhmpdmbjmdaaDoorLInj
import Derived.Test.YtondhmpdmbjmdaaDoorRT7
set_option linter.unusedVariables false
set_option linter.unusedSimpArgs false
namespace Go.Av
open Go Go.Proofs

theorem count_take {s : List UInt8} {i : Nat} {c : UInt8} (h : s[i]? = some c) : (s.take (i + 1)).count 10 = (s.take i).count 10 + if c = 10 then 1 else 0 := by
  rw [List.take_add_one, h, List.count_append]
  simp [List.count_cons]

set_option maxRecDepth 100000 in
set_option maxHeartbeats 4000000 in
theorem law_GfLines (f : GF) (H : AHeap) (hT : H 1 = some (.tab powTab)) (hf : ∀ l ∈ f.levels, l.tokens.length ≤ R47) : Pure lF_Lines_id [f.av] H (.bool true) := by
  have hml := maxLen_eq
  refine lF_Lines_enter rfl ?_
  simp [lF_Lines_rs, allocQ]
  intro b1 hb1
  have q1 : (H.set b1 (.box f.av)) b1 = some (.box f.av) := AHeap.set_same _ _ _
  have hle : HLe H (H.set b1 (.box f.av)) := .set hb1
  have hT1 := hle.x 1 _ rfl hT
  generalize H.set b1 (.box f.av) = H1 at q1 hle hT1 ⊢
  refine (l16_small f 200 H1 (by decide) (by decide) hf).use ?_
  by_cases hs : sizeF f 200 ≤ 200
  · obtain ⟨t1, _⟩ := small_tokens (by decide) (by decide) hs
    simp [hs, q1]
    refine (r16_Valid f t1 H1).use ?_
    cases hv : validM f
    · simp
      refine (l16_awake H1).use ?_
      simp
      exact hle
    · simp [q1]
      refine (format_small hT1 hv (by decide) (by decide) hs).use ?_
      have hl := format_le hv (by decide) (by decide) hs
      have hlines := gfText_lines hv
      have hcount := hlines.count
      have hbefore := hlines.before
      obtain ⟨hpos, hlast⟩ := hlines.last (by omega)
      generalize hsx : gfText f = s at *
      have hcl : s.count 10 ≤ s.length := List.count_le_length
      obtain ⟨st, lv, rs⟩ := f
      simp only [GF.av] at q1
      simp only at hcount hcl
      simp
      refine aw_loopK (fun i : Nat => i ≤ s.length) (fun i => [(1, .ptr b1 0 []), (3, .str s), (4, i64 ((s.take i).count 10 : Nat)), (5, i64 i)]) (fun _ => H1) (fun i => s.length - i) 0 (Nat.zero_le _) rfl rfl ?_
      intro i hi
      have hct : (s.take i).count 10 ≤ s.length := Nat.le_trans List.count_le_length (by rw [List.length_take]; omega)
      by_cases h : i < s.length
      · have hc : s[i]? = some s[i] := List.getElem?_eq_getElem h
        have h1 : (i : Int) < s.length := by omega
        have hstep := count_take hc
        by_cases h10 : s[i] = 10
        · rw [h10] at hc
          obtain ⟨j, rfl, hj⟩ := hbefore i hc
          have hjl : j < s.length := by omega
          have hj1 : (j : Int) < s.length := by omega
          rw [if_pos h10] at hstep
          have hne : ¬ ((j : Int) + 1 = 0) := by omega
          have hne' : (((j : Int) + 1) == 0) = false := by simpa using hne
          have wj : IntKind.i64.wrap (j : Int) = j := wrap64 (by omega) (by omega)
          have h0 : (0 : Int) ≤ (j : Int) + 1 := by omega
          have hj2 : s[j]? = some (59 : UInt8) := hj
          have h1' : (j : Int) + 1 < s.length := by omega
          simp [h, h1', hc, h10, hne, hne', wj, h0, hj2]
          intro _
          rw [wrap64 (by omega) (by omega), wrap64 (by omega) (by omega)]
          refine loopK_same (j + 2) (by omega) (by omega) ?_ rfl
          simp only [hstep]
          rfl
        · rw [if_neg h10] at hstep
          have h10' : ¬ ((s[i].toNat : Int) = 10) := fun e => h10 (UInt8.toNat_inj.1 (by have : (10 : UInt8).toNat = 10 := rfl; omega))
          simp [h, h1, hc, h10, h10']
          intro _
          rw [wrap64 (by omega) (by omega)]
          refine loopK_same (i + 1) (by omega) (by omega) ?_ rfl
          simp only [hstep]
          rfl
      · have : i = s.length := by omega
        subst this
        simp
        intro hsm
        refine (l16_awake H1).use ?_
        have e1 : (((s.count 10 : Nat) : Int)) = 1 + lv.length + rs.length := by rw [hcount]; omega
        have w1 : IntKind.i64.wrap (1 + (lv.length : Int)) = 1 + lv.length := wrap64 (by omega) (by omega)
        have w2 : IntKind.i64.wrap (1 + (lv.length : Int) + rs.length) = 1 + lv.length + rs.length := wrap64 (by omega) (by omega)
        have w3 : IntKind.i64.wrap ((s.length : Int) - 1) = s.length - 1 := wrap64 (by omega) (by omega)
        have e3 : ((s.length : Int) - 1).toNat = s.length - 1 := by omega
        have h3 : (0 : Int) ≤ (s.length : Int) - 1 := by omega
        have h4 : ((s.length : Int) - 1) < s.length := by omega
        simp [q1, e1, w1, w2, w3, e3, h3, h4, hlast]
        intro _ _ _
        exact ⟨by omega, hle⟩
  · simp [hs]
    refine (l16_awake H1).use ?_
    simp
    exact hle
end Go.Av
