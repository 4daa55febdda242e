/- Lists of names and of numbers: whether they are the same; where a name stands. -/
import Derived.Test.YtpdbcfnmhicnbaaDoorFnC
import Derived.Test.YtpdbcfnmhicnbaaDoorFnD
import Derived.Test.YtpdbcfnmhicnbaaDoorBase
set_option linter.unusedVariables false
set_option linter.unusedSimpArgs false
namespace Go.Av
open Go Go.Proofs

abbrev strs (l : List (List UInt8)) : AV := .list 1 (l.map AV.str)
abbrev ints (l : List Int) : AV := .list 1 (l.map fun n => AV.int .i64 n)

theorem eq_strings (l m : List (List UInt8)) (H : AHeap) : Pure sl_Equal_string_id [strs l, strs m] H (.bool (eqB l m)) := by
  have hml := maxLen_eq
  refine sl_Equal_string_enter rfl ?_
  simp [sl_Equal_string_rs]
  intro h1 h2
  by_cases hlen : l.length = m.length
  · simp [hlen]
    intro h3
    refine aw_loopK (fun i : Nat => i ≤ l.length ∧ Pre l m i)
      (fun i => [(0, strs l), (1, strs m), (12, i64 m.length), (13, i64 i)]) (fun _ => H) (fun i => l.length - i) 0 ⟨by simp, Pre.zero _ _⟩ rfl rfl ?_
    rintro i ⟨hi, hno⟩
    by_cases h : i < l.length
    · have hc : l[i]? = some l[i] := List.getElem?_eq_getElem h
      have hm' : i < m.length := by omega
      have hd : m[i]? = some m[i] := List.getElem?_eq_getElem hm'
      simp [h, hm']
      refine sl_Equal_string_c10_lex ?_
      simp [h, hm', hc, hd]
      by_cases hx : l[i] = m[i]
      · simp [hx]
        rw [wrap64 (by omega) (by omega)]
        exact loopK_same (i + 1) ⟨by omega, hno.succ hc hd hx⟩ (by omega) rfl rfl
      · have hx' : (l[i] != m[i]) = true := by simpa using hx
        simp [hx, hx', eqB_false.2 (Pre.ne hc hd hx)]
    · have : i = l.length := by omega
      subst this
      simp [hlen, eqB_iff.2 (Pre.full hlen hno)]
  · have hb : eqB l m = false := eqB_false.2 fun e => hlen (by rw [e])
    have hlen' : ¬ (l.length : Int) = m.length := by omega
    simp [hlen, hlen', hb]

theorem eq_ints (l m : List Int) (H : AHeap) : Pure sl_Equal_int_id [ints l, ints m] H (.bool (eqB l m)) := by
  have hml := maxLen_eq
  refine sl_Equal_int_enter rfl ?_
  simp [sl_Equal_int_rs]
  intro h1 h2
  by_cases hlen : l.length = m.length
  · simp [hlen]
    intro h3
    refine aw_loopK (fun i : Nat => i ≤ l.length ∧ Pre l m i)
      (fun i => [(0, ints l), (1, ints m), (12, i64 m.length), (13, i64 i)]) (fun _ => H) (fun i => l.length - i) 0 ⟨by simp, Pre.zero _ _⟩ rfl rfl ?_
    rintro i ⟨hi, hno⟩
    by_cases h : i < l.length
    · have hc : l[i]? = some l[i] := List.getElem?_eq_getElem h
      have hm' : i < m.length := by omega
      have hd : m[i]? = some m[i] := List.getElem?_eq_getElem hm'
      simp [h, hm']
      refine sl_Equal_int_c10_lex ?_
      simp [h, hm', hc, hd]
      by_cases hx : l[i] = m[i]
      · simp [hx]
        rw [wrap64 (by omega) (by omega)]
        exact loopK_same (i + 1) ⟨by omega, hno.succ hc hd hx⟩ (by omega) rfl rfl
      · have hx' : (l[i] != m[i]) = true := by simpa using hx
        simp [hx, hx', eqB_false.2 (Pre.ne hc hd hx)]
    · have : i = l.length := by omega
      subst this
      simp [hlen, eqB_iff.2 (Pre.full hlen hno)]
  · have hb : eqB l m = false := eqB_false.2 fun e => hlen (by rw [e])
    have hlen' : ¬ (l.length : Int) = m.length := by omega
    simp [hlen, hlen', hb]

theorem r_sameNames (l m : List (List UInt8)) (H : AHeap) : Pure ref18_sameNames_id [strs l, strs m] H (.bool (eqB l m)) := by
  have hml := maxLen_eq
  refine ref18_sameNames_enter rfl ?_
  simp [ref18_sameNames_rs]
  intro h1 h2
  by_cases hlen : l.length = m.length
  · simp [hlen]
    refine aw_loopK (fun i : Nat => i ≤ l.length ∧ Pre l m i)
      (fun i => [(0, strs l), (1, strs m), (5, i64 i)]) (fun _ => H) (fun i => l.length - i) 0 ⟨by simp, Pre.zero _ _⟩ rfl rfl ?_
    rintro i ⟨hi, hno⟩
    by_cases h : i < l.length
    · have hc : l[i]? = some l[i] := List.getElem?_eq_getElem h
      have hm' : i < m.length := by omega
      have hd : m[i]? = some m[i] := List.getElem?_eq_getElem hm'
      simp [h, hm', hlen]
      intro _
      refine ref18_sameNames_c10_lex ?_
      simp [h, hm', hc, hd]
      by_cases hx : l[i] = m[i]
      · simp [hx]
        rw [wrap64 (by omega) (by omega)]
        exact loopK_same (i + 1) ⟨by omega, hno.succ hc hd hx⟩ (by omega) rfl rfl
      · have hx' : (l[i] != m[i]) = true := by simpa using hx
        simp [hx, hx', eqB_false.2 (Pre.ne hc hd hx)]
    · have : i = l.length := by omega
      subst this
      simp [hlen, eqB_iff.2 (Pre.full hlen hno)]
  · have hb : eqB l m = false := eqB_false.2 fun e => hlen (by rw [e])
    have hlen' : ¬ (l.length : Int) = m.length := by omega
    simp [hlen, hlen', hb]

/-- Where the name stands first, or -1. -/
def idxS (s : List UInt8) : List (List UInt8) → Int
  | [] => -1
  | x :: l => if x = s then 0 else if idxS s l < 0 then -1 else idxS s l + 1

theorem idxS_none {s : List UInt8} : ∀ {l : List (List UInt8)}, (∀ (j : Nat) (x : List UInt8), l[j]? = some x → x ≠ s) → idxS s l = -1
  | [], _ => rfl
  | y :: l, h => by
    have h0 := h 0 y rfl
    have := idxS_none (l := l) fun j x hj => h (j + 1) x (by simpa using hj)
    simp [idxS, h0, this]
theorem idxS_some {s : List UInt8} : ∀ {l : List (List UInt8)} {i : Nat}, l[i]? = some s → (∀ (j : Nat) (x : List UInt8), j < i → l[j]? = some x → x ≠ s) → idxS s l = i
  | y :: l, 0, h, _ => by simp at h; simp [idxS, h]
  | y :: l, i + 1, h, hn => by
    have h0 := hn 0 y (by omega) rfl
    have := idxS_some (l := l) (i := i) (by simpa using h) fun j x hj hx => hn (j + 1) x (by omega) (by simpa using hx)
    simp [idxS, h0, this]
    omega

theorem index_string (l : List (List UInt8)) (s : List UInt8) (H : AHeap) : Pure sl_Index_string_id [strs l, .str s] H (i64 (idxS s l)) := by
  have hml := maxLen_eq
  refine sl_Index_string_enter rfl ?_
  simp [sl_Index_string_rs]
  intro h1
  refine aw_loopK (fun i : Nat => i ≤ l.length ∧ ∀ (j : Nat) (x : List UInt8), j < i → l[j]? = some x → x ≠ s)
    (fun i => [(0, strs l), (1, .str s), (7, i64 l.length), (8, i64 i)]) (fun _ => H) (fun i => l.length - i) 0 ⟨by simp, by simp⟩ rfl rfl ?_
  rintro i ⟨hi, hno⟩
  by_cases h : i < l.length
  · have hc : l[i]? = some l[i] := List.getElem?_eq_getElem h
    simp [h, hc]
    by_cases hx : s = l[i]
    · simp [← hx, idxS_some (by rw [hc, ← hx]) hno]
    · simp [hx]
      rw [wrap64 (by omega) (by omega)]
      refine loopK_same (i + 1) ⟨by omega, fun j x hj hx' => ?_⟩ (by omega) rfl rfl
      by_cases hji : j < i
      · exact hno j x hji hx'
      · have : j = i := by omega
        subst this
        rw [hc] at hx'
        injection hx' with hx'
        rw [← hx']
        exact Ne.symm hx
  · have : idxS s l = -1 := idxS_none fun j x hj => hno j x (by have := (List.getElem?_eq_some_iff.1 hj).1; omega) hj
    simp [h, this]

theorem g_letter (b : UInt8) (H : AHeap) : Pure grammar_letter_id [u8 b] H (.bool (isLetter b)) := by
  refine grammar_letter_enter rfl ?_
  have e := bool_of_iff (isLetter_iff b)
  rw [e]
  by_cases h1 : (97 : Int) ≤ b.toNat <;> by_cases h2 : (b.toNat : Int) ≤ 122 <;> by_cases h3 : (65 : Int) ≤ b.toNat <;> by_cases h4 : (b.toNat : Int) ≤ 90 <;> simp [grammar_letter_rs, h1, h2, h3, h4]
end Go.Av
