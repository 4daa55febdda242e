/- Part of the proof: Ce. No condition. -/
import Derived.Test.YtondhmpdmbjmdaaDoorCd
import Derived.Test.YtondhmpdmbjmdaaDoorFns30
set_option linter.unusedVariables false
set_option linter.unusedSimpArgs false
namespace Go.Av

theorem gf_letter (b : UInt8) (H : AHeap) : Pure gF_letter_id [u8 b] H (.bool (isLetter b)) := by
  refine gF_letter_enter rfl ?_
  rw [bool_of_iff (isLetter_iff b)]
  by_cases h1 : 97 ≤ (b.toNat : Int) <;> by_cases h2 : (b.toNat : Int) ≤ 122 <;> by_cases h3 : 65 ≤ (b.toNat : Int) <;> by_cases h4 : (b.toNat : Int) ≤ 90 <;>
    first | omega | simp [gF_letter_rs, h1, h2, h3, h4]

/-- The index of the first that fits, or -1. -/
def IsIdx {α : Type} (p : α → Bool) (l : List α) (k : Int) : Prop := decide (0 ≤ k) = l.any p

theorem any_take {α : Type} {p : α → Bool} {l : List α} {x : Nat} (h : ∀ j y, j < x → l[j]? = some y → p y = false) (hx : l.length ≤ x) : l.any p = false := by
  rw [List.any_eq_false]
  intro y hy
  obtain ⟨j, hj, rfl⟩ := List.mem_iff_getElem.1 hy
  simp [h j l[j] (by omega) (List.getElem?_eq_getElem hj)]

theorem sl_Index (v : AV) (s0 : Nat) (l : List (List UInt8)) (hv : v.asList = some (s0, l.map AV.str)) (hs0 : l.map AV.str = [] ∨ s0 = 1) (x : List UInt8) (H : AHeap) :
    ACalls PP sl_Index_string_id [v, .str x] H (fun r H' => ∃ k, r = .ret (i64 k) ∧ H' = H ∧ IsIdx (fun y => x == y) l k) := by
  refine sl_Index_string_enter rfl ?_
  simp [sl_Index_string_rs, hv]
  intro hm
  have hml := maxLen_eq
  refine aw_loopK (fun i : Nat => i ≤ l.length ∧ ∀ j y, j < i → l[j]? = some y → ¬ x = y) (fun i => [(0, v), (1, .str x), (7, i64 l.length), (8, i64 i)]) (fun _ => H) (fun i => l.length - i) 0 ⟨by simp, by simp⟩ rfl rfl ?_
  rintro i ⟨hi, hno⟩
  by_cases h : i < l.length
  · have hs1 : s0 = 1 := by
      rcases hs0 with h0 | h0
      · have : l = [] := by simpa using h0
        simp [this] at h
      · exact h0
    subst hs1
    have hc : l[i]? = some l[i] := List.getElem?_eq_getElem h
    cases hx : x == l[i]
    · have hx' : ¬ x = l[i] := by simpa using hx
      simp [h, hv, hx']
      rw [wrap64 (by omega) (by omega)]
      refine loopK_same (i + 1) ⟨by omega, fun j y hj hy => ?_⟩ (by omega) (by simp) rfl
      by_cases hji : j < i
      · exact hno j y hji hy
      · have : j = i := by omega
        subst this
        rw [hc] at hy
        injection hy with hy
        subst hy
        exact hx'
    · have hx' : x = l[i] := by simpa using hx
      simp [h, hv, ← hx']
      refine ⟨_, .refl _, _, .refl _, i, rfl, rfl, ?_⟩
      unfold IsIdx
      have : l.any (fun y => x == y) = true := List.any_eq_true.2 ⟨l[i], List.getElem_mem h, hx⟩
      rw [this]
      simp
  · simp [h]
    refine ⟨_, .refl _, _, .refl _, -1, rfl, rfl, ?_⟩
    unfold IsIdx
    rw [any_take (p := fun y => x == y) (fun j y hj hy => beq_eq_false_iff_ne.2 (hno j y hj hy)) (by omega)]
    rfl

theorem sl_Contains (v : AV) (s0 : Nat) (l : List (List UInt8)) (hv : v.asList = some (s0, l.map AV.str)) (hs0 : l.map AV.str = [] ∨ s0 = 1) (x : List UInt8) (H : AHeap) :
    Pure sl_Contains_string_id [v, .str x] H (.bool (l.any fun y => x == y)) := by
  refine sl_Contains_string_enter rfl ?_
  simp [sl_Contains_string_rs]
  refine (sl_Index v s0 l hv hs0 x H).mono ?_
  rintro r H' ⟨k, rfl, rfl, hk⟩
  simp
  unfold IsIdx at hk
  rw [hk]
  exact .refl _
end Go.Av

namespace Go.Av

theorem sl_IndexFunc_GExpr {cap : List AV} (F : FuncId) (l : List GE) (p : GE → Bool) (H : AHeap) (hF : ∀ x ∈ l, Pure F (x.av :: cap) H (.bool (p x))) :
    ACalls PP sI_GExpr_id [.list 3 (l.map GE.av), .fn (.func F) [] cap] H (fun r H' => ∃ k, r = .ret (i64 k) ∧ H' = H ∧ IsIdx p l k) := by
  refine sI_GExpr_enter rfl ?_
  simp [sI_GExpr_rs]
  intro hm
  have hml := maxLen_eq
  refine aw_loopK (fun i : Nat => i ≤ l.length ∧ ∀ j y, j < i → l[j]? = some y → p y = false) (fun i => [(0, .list 3 (l.map GE.av)), (1, .fn (.func F) [] cap), (7, i64 l.length), (8, i64 i)]) (fun _ => H) (fun i => l.length - i) 0 ⟨by simp, by simp⟩ rfl rfl ?_
  rintro i ⟨hi, hno⟩
  by_cases h : i < l.length
  · have hc : l[i]? = some l[i] := List.getElem?_eq_getElem h
    simp [h]
    refine (hF _ (List.getElem_mem h)).use ?_
    cases hx : p l[i]
    · simp
      rw [wrap64 (by omega) (by omega)]
      refine loopK_same (i + 1) ⟨by omega, fun j y hj hy => ?_⟩ (by omega) (by simp) rfl
      by_cases hji : j < i
      · exact hno j y hji hy
      · have : j = i := by omega
        subst this
        rw [hc] at hy
        injection hy with hy
        subst hy
        exact hx
    · simp
      refine ⟨_, .refl _, _, .refl _, i, rfl, rfl, ?_⟩
      unfold IsIdx
      have : l.any p = true := List.any_eq_true.2 ⟨l[i], List.getElem_mem h, hx⟩
      rw [this]
      simp
  · simp [h]
    refine ⟨_, .refl _, _, .refl _, -1, rfl, rfl, ?_⟩
    unfold IsIdx
    rw [any_take hno (by omega)]
    rfl

theorem sl_ContainsFunc_GExpr {cap : List AV} (F : FuncId) (l : List GE) (p : GE → Bool) (H : AHeap) (hF : ∀ x ∈ l, Pure F (x.av :: cap) H (.bool (p x))) :
    Pure sC_GExpr_id [.list 3 (l.map GE.av), .fn (.func F) [] cap] H (.bool (l.any p)) := by
  refine sC_GExpr_enter rfl ?_
  simp [sC_GExpr_rs]
  refine (sl_IndexFunc_GExpr F l p H hF).mono ?_
  rintro r H' ⟨k, rfl, rfl, hk⟩
  simp
  unfold IsIdx at hk
  rw [hk]
  exact .refl _

theorem sl_IndexFunc_GAlternative {cap : List AV} (F : FuncId) (l : List GA) (p : GA → Bool) (H : AHeap) (hF : ∀ x ∈ l, Pure F (x.av :: cap) H (.bool (p x))) :
    ACalls PP sI_GA_id [.list 4 (l.map GA.av), .fn (.func F) [] cap] H (fun r H' => ∃ k, r = .ret (i64 k) ∧ H' = H ∧ IsIdx p l k) := by
  refine sI_GA_enter rfl ?_
  simp [sI_GA_rs]
  intro hm
  have hml := maxLen_eq
  refine aw_loopK (fun i : Nat => i ≤ l.length ∧ ∀ j y, j < i → l[j]? = some y → p y = false) (fun i => [(0, .list 4 (l.map GA.av)), (1, .fn (.func F) [] cap), (7, i64 l.length), (8, i64 i)]) (fun _ => H) (fun i => l.length - i) 0 ⟨by simp, by simp⟩ rfl rfl ?_
  rintro i ⟨hi, hno⟩
  by_cases h : i < l.length
  · have hc : l[i]? = some l[i] := List.getElem?_eq_getElem h
    simp [h]
    refine (hF _ (List.getElem_mem h)).use ?_
    cases hx : p l[i]
    · simp
      rw [wrap64 (by omega) (by omega)]
      refine loopK_same (i + 1) ⟨by omega, fun j y hj hy => ?_⟩ (by omega) (by simp) rfl
      by_cases hji : j < i
      · exact hno j y hji hy
      · have : j = i := by omega
        subst this
        rw [hc] at hy
        injection hy with hy
        subst hy
        exact hx
    · simp
      refine ⟨_, .refl _, _, .refl _, i, rfl, rfl, ?_⟩
      unfold IsIdx
      have : l.any p = true := List.any_eq_true.2 ⟨l[i], List.getElem_mem h, hx⟩
      rw [this]
      simp
  · simp [h]
    refine ⟨_, .refl _, _, .refl _, -1, rfl, rfl, ?_⟩
    unfold IsIdx
    rw [any_take hno (by omega)]
    rfl

theorem sl_ContainsFunc_GAlternative {cap : List AV} (F : FuncId) (l : List GA) (p : GA → Bool) (H : AHeap) (hF : ∀ x ∈ l, Pure F (x.av :: cap) H (.bool (p x))) :
    Pure sC_GA_id [.list 4 (l.map GA.av), .fn (.func F) [] cap] H (.bool (l.any p)) := by
  refine sC_GA_enter rfl ?_
  simp [sC_GA_rs]
  refine (sl_IndexFunc_GAlternative F l p H hF).mono ?_
  rintro r H' ⟨k, rfl, rfl, hk⟩
  simp
  unfold IsIdx at hk
  rw [hk]
  exact .refl _

def nameOK (s : List UInt8) : Bool := s != [] && decide (s.length ≤ 24) && (match s with | c :: _ => isLetter c | [] => false) && !reserved s && s.all inWord
end Go.Av

namespace Go.Av
theorem inWord_iff (b : UInt8) : inWord b = (isLetter b || (decide (48 ≤ (b.toNat : Int)) && decide ((b.toNat : Int) ≤ 57)) || (b.toNat : Int) == 95) := by
  unfold inWord
  have h1 : isDigit b = (decide (48 ≤ (b.toNat : Int)) && decide ((b.toNat : Int) ≤ 57)) := by
    rw [bool_of_iff (isDigit_iff b)]
    by_cases h1 : 48 ≤ (b.toNat : Int) <;> by_cases h2 : (b.toNat : Int) ≤ 57 <;> simp [h1, h2]
  rw [h1, u8_eq]
  congr 1

set_option maxHeartbeats 1000000 in
theorem gf_name (s : List UInt8) (H : AHeap) : Pure gF_name_id [.str s] H (.bool (nameOK s)) := by
  refine gF_name_enter rfl ?_
  have hml := maxLen_eq
  cases s with
  | nil => simp [gF_name_rs, nameOK]
  | cons c r =>
    by_cases hlen : (r.length : Int) + 1 ≤ 24
    · have hlen' : ¬ (24 : Int) < (r.length : Int) + 1 := by omega
      have hlen2 : r.length + 1 ≤ 24 := by omega
      simp [gF_name_rs, hlen']
      intro _
      refine (gf_letter c H).use ?_
      cases hc : isLetter c
      · simp [nameOK, hc]
      · simp
        refine (sl_Contains (.list 1 [.str kwStart, .str kwLeft, .str kwRight, .str kwNone, .str kwPrice]) 1 [kwStart, kwLeft, kwRight, kwNone, kwPrice] rfl (.inr rfl) (c :: r) H).use ?_
        have hr : ([kwStart, kwLeft, kwRight, kwNone, kwPrice].any fun y => c :: r == y) = reserved (c :: r) := by
          simp [reserved, Bool.or_assoc]
        rw [hr]
        cases hres : reserved (c :: r)
        · simp
          intro _
          refine aw_loopK (fun i : Nat => i ≤ (c :: r).length ∧ ∀ j y, j < i → (c :: r)[j]? = some y → inWord y = true) (fun i => [(0, .str (c :: r)), (23, i64 ((r.length : Int) + 1)), (24, i64 i)]) (fun _ => H) (fun i => (c :: r).length - i) 0 ⟨by simp, by simp⟩ rfl rfl ?_
          rintro i ⟨hi, hno⟩
          have hsl : ((r.length : Int) + 1) = ((c :: r).length : Int) := by simp
          rw [hsl]
          generalize hs : c :: r = s at *
          by_cases h : i < s.length
          · have hcc : s[i]? = some s[i] := List.getElem?_eq_getElem h
            simp [h]
            refine (gf_letter s[i] H).use ?_
            have hw := inWord_iff s[i]
            have next : inWord s[i] = true → loopK (fun i : Nat => i ≤ s.length ∧ ∀ j y, j < i → s[j]? = some y → inWord y = true) (fun i => [(0, .str s), (23, i64 s.length), (24, i64 i)]) (fun _ => H) (fun i => s.length - i) (s.length - i)
              (blockK 0 (seqK PP gF_name_c25 (retK [.tmp 2] fun r H' => r = .ret (.bool (nameOK s)) ∧ H' = H))) .norm [(0, .str s), (23, i64 s.length), (24, i64 (i + 1 : Nat))] H := by
              intro hin
              refine loopK_same (i + 1) ⟨by omega, fun j y hj hy => ?_⟩ (by omega) rfl rfl
              by_cases hji : j < i
              · exact hno j y hji hy
              · have : j = i := by omega
                subst this
                rw [hcc] at hy
                injection hy with hy
                subst hy
                exact hin
            have bad : inWord s[i] = false → nameOK s = false := by
              intro hin
              have : s.all inWord = false := by
                rw [List.all_eq_false]
                exact ⟨s[i], List.getElem_mem h, by simp [hin]⟩
              simp [nameOK, this]
            have hwr : IntKind.i64.wrap ((i : Int) + 1) = ((i + 1 : Nat) : Int) := wrap64 (by omega) (by omega)
            cases hl : isLetter s[i]
            · rw [hl] at hw
              rcases Int.lt_or_le (s[i].toNat : Int) 48 with h48 | h48
              · have n48 := Int.not_le.2 h48
                have n95 : ¬ (s[i].toNat : Int) = 95 := by omega
                have hin : inWord s[i] = false := by rw [hw]; simp [n48, n95]
                rw [bad hin]
                simp [h, h48, n48, n95]
              · rcases Int.lt_or_le 57 (s[i].toNat : Int) with h57 | h57
                · have n57 := Int.not_le.2 h57
                  have n48 := Int.not_lt.2 h48
                  by_cases h95 : (s[i].toNat : Int) = 95
                  · have hin : inWord s[i] = true := by rw [hw]; simp [h95]
                    simp [h, h95, hwr]
                    exact next hin
                  · have hin : inWord s[i] = false := by rw [hw]; simp [n57, h95]
                    rw [bad hin]
                    simp [h, h48, n48, h57, n57, h95]
                · have n57 := Int.not_lt.2 h57
                  have n48 := Int.not_lt.2 h48
                  have n95 : ¬ (s[i].toNat : Int) = 95 := by omega
                  have hin : inWord s[i] = true := by rw [hw]; simp [h48, h57]
                  simp [h, h48, n48, h57, n57, n95, hwr]
                  exact next hin
            · have hin : inWord s[i] = true := by rw [hw, hl]; rfl
              simp [h, hwr]
              exact next hin
          · simp [h]
            have : nameOK s = true := by
              have h2 : s.all inWord = true := by
                rw [List.all_eq_true]
                intro y hy
                obtain ⟨j, hj, rfl⟩ := List.mem_iff_getElem.1 hy
                exact hno j _ (by omega) (List.getElem?_eq_getElem hj)
              subst hs
              simp only [nameOK, hc, hres, h2]
              simp [hlen2]
            rw [this]
            exact .refl _
        · simp [nameOK, hres]
    · have hlen' : (24 : Int) < (r.length : Int) + 1 := by omega
      have hlen2 : ¬ r.length + 1 ≤ 24 := by omega
      simp [gF_name_rs, hlen', nameOK, hlen2]
end Go.Av
