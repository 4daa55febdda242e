/- ref16.Equal: it answers whether two files are the same. -/
import Derived.Test.YtondhmpdmbjmdaaDoorFnsE
import Derived.Test.YtondhmpdmbjmdaaDoorQa
import Derived.Test.YtondhmpdmbjmdaaDoorD12
set_option linter.unusedVariables false
set_option linter.unusedSimpArgs false
namespace Go.Av
open Go Go.Proofs

def Pre {α : Type} (l m : List α) (i : Nat) : Prop := ∀ j x y, j < i → l[j]? = some x → m[j]? = some y → x = y
theorem Pre.zero {α : Type} (l m : List α) : Pre l m 0 := fun j x y h => by omega
theorem Pre.succ {α : Type} {l m : List α} {i : Nat} {x y : α} (h : Pre l m i) (hx : l[i]? = some x) (hy : m[i]? = some y) (e : x = y) : Pre l m (i + 1) := by
  intro j a b hj ha hb
  by_cases hji : j < i
  · exact h j a b hji ha hb
  · have : j = i := by omega
    subst this
    rw [hx] at ha
    rw [hy] at hb
    injection ha with ha
    injection hb with hb
    rw [← ha, ← hb, e]
theorem Pre.full {α : Type} {l m : List α} (hl : l.length = m.length) (h : Pre l m l.length) : l = m := by
  apply List.ext_getElem?
  intro j
  by_cases hj : j < l.length
  · rw [List.getElem?_eq_getElem hj, List.getElem?_eq_getElem (by omega)]
    rw [h j _ _ hj (List.getElem?_eq_getElem hj) (List.getElem?_eq_getElem (by omega : j < m.length))]
  · rw [List.getElem?_eq_none (by omega), List.getElem?_eq_none (by omega)]
theorem Pre.ne {α : Type} {l m : List α} {i : Nat} {x y : α} (hx : l[i]? = some x) (hy : m[i]? = some y) (e : x ≠ y) : l ≠ m := fun h => by
  subst h
  rw [hx] at hy
  injection hy with hy
  exact e hy

theorem r16_EqualExpr : ∀ (n : Nat) (x : GE), SizeOf.sizeOf x ≤ n → ∀ (y : GE) (H : AHeap), Pure r6_EE_id [x.av, y.av] H (.bool (eqB x y))
  | 0, .mk k nm kids, h => by simp at h
  | n + 1, .mk k nm kids, h => by
    rintro ⟨k', nm', kids'⟩ H
    have ih : ∀ x ∈ kids, ∀ y H, Pure r6_EE_id [x.av, y.av] H (.bool (eqB x y)) := fun x hx => r16_EqualExpr n x (by
      have := List.sizeOf_lt_of_mem hx
      simp at h
      omega)
    have hml := maxLen_eq
    refine r6_EE_enter rfl ?_
    simp [r6_EE_rs, allocQ, -r6_EE_c25_eq]
    intro b2 hb2 b3 hb3
    obtain ⟨H1, e1, q2, q3, hle⟩ := two_boxes (o' := .box (GE.mk k' nm' kids').av) hb2 hb3
    rw [e1]
    rw [GE.av_mk] at q2 q3
    clear hb2 hb3 e1
    by_cases h1 : k = k'
    · by_cases h2 : nm = nm'
      · by_cases h3 : kids.length = kids'.length
        · subst h1 h2
          have hq : eqB (GE.mk k nm kids) (.mk k nm kids') = eqB kids kids' := by
            rw [Bool.eq_iff_iff, eqB_iff, eqB_iff]; simp
          rw [hq]
          have h3i : (kids.length : Int) = kids'.length := by omega
          simp [q2, q3, h3, h3i, -r6_EE_c24_eq]
          intro hm1 
          simp [q2, q3]
          refine aw_loopK (fun i : Nat => i ≤ kids.length ∧ Pre kids kids' i) (fun i => [(2, .ptr b2 0 []), (3, .ptr b3 0 []), (5, i64 i)]) (fun _ => H1) (fun i => kids.length - i) 0 ⟨Nat.zero_le _, Pre.zero _ _⟩ rfl rfl ?_
          rintro i ⟨hi, hpre⟩
          by_cases h : i < kids.length
          · have hk : i < kids'.length := by omega
            have hc : kids[i]? = some kids[i] := List.getElem?_eq_getElem h
            have hd : kids'[i]? = some kids'[i] := List.getElem?_eq_getElem hk
            have h' : ¬ kids.length ≤ i := by omega
            have hk' : ¬ kids'.length ≤ i := by omega
            have hi2 : (i : Int) < kids'.length := by omega
            simp [q2, q3, h, h', hk, hk', h3, h3i, hi2]
            intro hm2
            refine r6_EE_c10_lex ?_
            simp [q2, q3, h, hk, hc, hd]
            refine ⟨_, ih _ (List.getElem_mem h) _ _, ?_⟩
            by_cases hx : kids[i] = kids'[i]
            · simp [hx, eqB_self]
              rw [wrap64 (by omega) (by omega)]
              exact loopK_same (i + 1) ⟨by omega, hpre.succ hc hd hx⟩ (by omega) rfl rfl
            · simp [eqB_false.2 hx, eqB_false.2 (Pre.ne hc hd hx)]
              exact hle
          · have : i = kids.length := by omega
            subst this
            have hkk := Pre.full h3 hpre
            have hi2 : ¬ (kids.length : Int) < kids'.length := by omega
            simp [q2, q3, h3, hi2, eqB_iff.2 hkk]
            intro _
            exact hle
        · have hq : eqB (GE.mk k nm kids) (.mk k' nm' kids') = false := eqB_false.2 (by simp; intro _ _ e; exact h3 (by rw [e]))
          have h3' : ((kids.length : Int) != kids'.length) = true := by simp; omega
          have h3i : ¬ (kids.length : Int) = kids'.length := by omega
          subst h1 h2
          simp [q2, q3, h3, h3', h3i, hq]
          intro _ _
          exact hle
      · have hq : eqB (GE.mk k nm kids) (.mk k' nm' kids') = false := eqB_false.2 (by simp [h2])
        have h2' : (nm != nm') = true := by simpa using h2
        subst h1
        simp [q2, q3, h2, h2', hq]
        exact hle
    · have hq : eqB (GE.mk k nm kids) (.mk k' nm' kids') = false := eqB_false.2 (by simp [h1])
      have h1' : (k != k') = true := by simpa using h1
      simp [q2, q3, h1, h1', hq]
      exact hle
end Go.Av
