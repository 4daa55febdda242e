/- Part of the proof: C15. No condition. -/
import Derived.Test.YtidbbhdejopdgaaC14
set_option linter.unusedVariables false
set_option linter.unusedSimpArgs false
namespace Go.Av

theorem sl_IndexFunc_GExpr {cap : List AV} (F : FuncId) (l : List GE) (p : GE → Bool) (H : AHeap) (hF : ∀ x ∈ l, Pure F (x.av :: cap) H (.bool (p x))) :
    ACalls PP slices_IndexFunc_GExpr_id [.list 3 (l.map GE.av), .fn (.func F) [] cap] H (fun r H' => ∃ k, r = .ret (i64 k) ∧ H' = H ∧ IsIdx p l k) := by
  refine slices_IndexFunc_GExpr_enter rfl ?_
  simp [slices_IndexFunc_GExpr_rs]
  intro hm
  have hml := maxLen_eq
  refine aw_loopK (fun i : Nat => i ≤ l.length ∧ ∀ j y, j < i → l[j]? = some y → p y = false) (fun i => [(0, .list 3 (l.map GE.av)), (1, .fn (.func F) [] cap), (7, i64 l.length), (8, i64 i)]) (fun _ => H) (fun i => l.length - i) 0 ⟨by simp, by simp⟩ rfl rfl ?_
  rintro i ⟨hi, hno⟩
  by_cases h : i < l.length
  · have hc : l[i]? = some l[i] := List.getElem?_eq_getElem h
    simp [h]
    refine (hF _ (List.getElem_mem h)).use ?_
    cases hx : p l[i]
    · simp
      rw [wrap64 (by omega) (by omega)]
      refine loopK_same (i + 1) ⟨by omega, fun j y hj hy => ?_⟩ (by omega) (by simp) rfl
      by_cases hji : j < i
      · exact hno j y hji hy
      · have : j = i := by omega
        subst this
        rw [hc] at hy
        injection hy with hy
        subst hy
        exact hx
    · simp
      refine ⟨_, .refl _, _, .refl _, i, rfl, rfl, ?_⟩
      unfold IsIdx
      have : l.any p = true := List.any_eq_true.2 ⟨l[i], List.getElem_mem h, hx⟩
      rw [this]
      simp
  · simp [h]
    refine ⟨_, .refl _, _, .refl _, -1, rfl, rfl, ?_⟩
    unfold IsIdx
    rw [any_take hno (by omega)]
    rfl

theorem sl_ContainsFunc_GExpr {cap : List AV} (F : FuncId) (l : List GE) (p : GE → Bool) (H : AHeap) (hF : ∀ x ∈ l, Pure F (x.av :: cap) H (.bool (p x))) :
    Pure slices_ContainsFunc_GExpr_id [.list 3 (l.map GE.av), .fn (.func F) [] cap] H (.bool (l.any p)) := by
  refine slices_ContainsFunc_GExpr_enter rfl ?_
  simp [slices_ContainsFunc_GExpr_rs]
  refine (sl_IndexFunc_GExpr F l p H hF).mono ?_
  rintro r H' ⟨k, rfl, rfl, hk⟩
  simp
  unfold IsIdx at hk
  rw [hk]
  exact .refl _

theorem sl_IndexFunc_GAlternative {cap : List AV} (F : FuncId) (l : List GA) (p : GA → Bool) (H : AHeap) (hF : ∀ x ∈ l, Pure F (x.av :: cap) H (.bool (p x))) :
    ACalls PP slices_IndexFunc_GAlternative_id [.list 4 (l.map GA.av), .fn (.func F) [] cap] H (fun r H' => ∃ k, r = .ret (i64 k) ∧ H' = H ∧ IsIdx p l k) := by
  refine slices_IndexFunc_GAlternative_enter rfl ?_
  simp [slices_IndexFunc_GAlternative_rs]
  intro hm
  have hml := maxLen_eq
  refine aw_loopK (fun i : Nat => i ≤ l.length ∧ ∀ j y, j < i → l[j]? = some y → p y = false) (fun i => [(0, .list 4 (l.map GA.av)), (1, .fn (.func F) [] cap), (7, i64 l.length), (8, i64 i)]) (fun _ => H) (fun i => l.length - i) 0 ⟨by simp, by simp⟩ rfl rfl ?_
  rintro i ⟨hi, hno⟩
  by_cases h : i < l.length
  · have hc : l[i]? = some l[i] := List.getElem?_eq_getElem h
    simp [h]
    refine (hF _ (List.getElem_mem h)).use ?_
    cases hx : p l[i]
    · simp
      rw [wrap64 (by omega) (by omega)]
      refine loopK_same (i + 1) ⟨by omega, fun j y hj hy => ?_⟩ (by omega) (by simp) rfl
      by_cases hji : j < i
      · exact hno j y hji hy
      · have : j = i := by omega
        subst this
        rw [hc] at hy
        injection hy with hy
        subst hy
        exact hx
    · simp
      refine ⟨_, .refl _, _, .refl _, i, rfl, rfl, ?_⟩
      unfold IsIdx
      have : l.any p = true := List.any_eq_true.2 ⟨l[i], List.getElem_mem h, hx⟩
      rw [this]
      simp
  · simp [h]
    refine ⟨_, .refl _, _, .refl _, -1, rfl, rfl, ?_⟩
    unfold IsIdx
    rw [any_take hno (by omega)]
    rfl

theorem sl_ContainsFunc_GAlternative {cap : List AV} (F : FuncId) (l : List GA) (p : GA → Bool) (H : AHeap) (hF : ∀ x ∈ l, Pure F (x.av :: cap) H (.bool (p x))) :
    Pure slices_ContainsFunc_GAlternative_id [.list 4 (l.map GA.av), .fn (.func F) [] cap] H (.bool (l.any p)) := by
  refine slices_ContainsFunc_GAlternative_enter rfl ?_
  simp [slices_ContainsFunc_GAlternative_rs]
  refine (sl_IndexFunc_GAlternative F l p H hF).mono ?_
  rintro r H' ⟨k, rfl, rfl, hk⟩
  simp
  unfold IsIdx at hk
  rw [hk]
  exact .refl _

def nameOK (s : List UInt8) : Bool := s != [] && decide (s.length ≤ 24) && (match s with | c :: _ => isLetter c | [] => false) && !reserved s && s.all inWord
end Go.Av
