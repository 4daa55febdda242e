/- The lines of the text of a grammar file. -/
import Derived.Test.YtondhmpdmbjmdaaDoorRT5
set_option linter.unusedVariables false
set_option linter.unusedSimpArgs false
namespace Go.Av

def NoNl (s : List UInt8) : Prop := ∀ c ∈ s, c ≠ 10
theorem NoNl.nil : NoNl [] := fun c h => by cases h
theorem NoNl.app {a b : List UInt8} (h : NoNl a) (k : NoNl b) : NoNl (a ++ b) := fun c hc => (List.mem_append.1 hc).elim (h c) (k c)
theorem NoNl.cons {a : UInt8} {b : List UInt8} (h : a ≠ 10) (k : NoNl b) : NoNl (a :: b) := fun c hc => by
  rcases List.mem_cons.1 hc with rfl | hc
  · exact h
  · exact k c hc

inductive LinesOf : Nat → List UInt8 → Prop where
  | nil : LinesOf 0 []
  | cons {b s : List UInt8} {n : Nat} (hb : NoNl b) (h : LinesOf n s) : LinesOf (n + 1) (b ++ 59 :: 10 :: s)

theorem LinesOf.app {n m : Nat} {s t : List UInt8} (h : LinesOf n s) (k : LinesOf m t) : LinesOf (n + m) (s ++ t) := by
  induction h with
  | nil => simpa using k
  | @cons b s n hb hs ih =>
    have := LinesOf.cons hb ih
    rw [show n + 1 + m = n + m + 1 by omega]
    simpa using this

theorem LinesOf.count {n : Nat} {s : List UInt8} (h : LinesOf n s) : s.count 10 = n := by
  induction h with
  | nil => rfl
  | @cons b s n hb hs ih =>
    have h0 : b.count 10 = 0 := List.count_eq_zero.2 fun hm => hb 10 hm rfl
    rw [List.count_append, h0, List.count_cons, List.count_cons, ih]
    simp

theorem LinesOf.before {n : Nat} {s : List UInt8} (h : LinesOf n s) : ∀ (i : Nat), s[i]? = some 10 → ∃ j : Nat, i = j + 1 ∧ s[j]? = some 59 := by
  induction h with
  | nil => intro i hi; simp at hi
  | @cons b s n hb hs ih =>
    intro i hi
    by_cases h1 : i < b.length
    · rw [List.getElem?_append_left h1] at hi
      exact absurd rfl (hb 10 (List.mem_of_getElem? hi))
    · rw [List.getElem?_append_right (by omega)] at hi
      obtain ⟨k, hk⟩ : ∃ k, i = b.length + k := ⟨i - b.length, by omega⟩
      subst hk
      rw [Nat.add_sub_cancel_left] at hi
      match k, hi with
      | 0, hi => simp at hi
      | 1, _ => exact ⟨b.length, rfl, by rw [List.getElem?_append_right (Nat.le_refl _)]; simp⟩
      | k + 2, hi =>
        simp only [List.getElem?_cons_succ] at hi
        obtain ⟨j, hj, hj2⟩ := ih k hi
        refine ⟨b.length + (j + 2), by omega, ?_⟩
        rw [List.getElem?_append_right (by omega), Nat.add_sub_cancel_left]
        simpa using hj2

theorem LinesOf.last {n : Nat} {s : List UInt8} (h : LinesOf n s) (hn : 0 < n) : 0 < s.length ∧ s[s.length - 1]? = some 10 := by
  induction h with
  | nil => omega
  | @cons b s n hb hs ih =>
    refine ⟨by simp; omega, ?_⟩
    have hl : (b ++ 59 :: 10 :: s).length - 1 = b.length + (s.length + 1) := by simp
    rw [hl, List.getElem?_append_right (by omega), Nat.add_sub_cancel_left, List.getElem?_cons_succ]
    by_cases h0 : n = 0
    · subst h0
      cases hs
      rfl
    · obtain ⟨h1, h2⟩ := ih (by omega)
      have : s.length = s.length - 1 + 1 := by omega
      rw [this, List.getElem?_cons_succ]
      exact h2

theorem word_nl {b : UInt8} (h : inWord b = true) : b ≠ 10 := fun e => by subst e; revert h; decide
theorem name_nl {n : List UInt8} (h : nameOK n = true) : NoNl n := by
  unfold nameOK at h
  simp only [Bool.and_eq_true] at h
  intro c hc
  exact word_nl (List.all_eq_true.1 h.2 c hc)
theorem digits_nl {s : List UInt8} (h : s.all isDigit = true) : NoNl s := fun c hc => word_nl (by
  have := List.all_eq_true.1 h c hc
  simp [inWord, this])
theorem encl_nl {b : Bool} {t : List UInt8} (h : NoNl t) : NoNl (encl b t) := by
  cases b with
  | false => exact h
  | true => exact .cons (by decide) (h.app (.cons (by decide) .nil))
theorem sep_nl (k : Int) (i : Nat) : NoNl (sepOf k i) := by
  unfold sepOf
  split
  · exact .nil
  · split
    · exact .cons (by decide) .nil
    · split
      · exact .cons (by decide) (.cons (by decide) (.cons (by decide) .nil))
      · exact .nil
theorem fmtE_nl : ∀ (n : Nat) (x : GE), SizeOf.sizeOf x ≤ n → ∀ (d : Nat), exprOK d x = true → NoNl (fmtE x)
  | 0, .mk k nm l, h => by simp at h
  | n + 1, .mk k nm l, h => by
    intro d he
    obtain ⟨d', rfl, hn, hk, hl⟩ := exprOK_mk he
    have hlist : ∀ (m : List GE) (i : Nat), (∀ x ∈ m, x ∈ l) → NoNl (fmtL k i m) := by
      intro m
      induction m with
      | nil => intro i _; rw [fmtL_nil]; exact .nil
      | cons e m ih =>
        intro i hm
        rw [fmtL_cons]
        exact ((sep_nl k i).app (encl_nl (fmtE_nl n e (by
          have := List.sizeOf_lt_of_mem (hm e (by simp))
          simp at h
          omega) d' (hl e (hm e (by simp)))))).app (ih (i + 1) fun x hx => hm x (by simp [hx]))
    rw [fmtE_mk]
    refine (hlist l 0 fun _ h => h).app ?_
    rcases kindOK_cases hk with ⟨rfl, h1, _⟩ | ⟨rfl, _⟩ | ⟨rfl, _⟩ | ⟨rfl | rfl | rfl, _⟩
    · exact name_nl h1
    · exact .nil
    · exact .nil
    · exact .cons (b := []) (by decide) .nil
    · exact .cons (b := []) (by decide) .nil
    · exact .cons (b := []) (by decide) .nil

theorem altText_nl {x : GA} (h : altOK x = true) : NoNl (altText x) := by
  simp only [altOK, Bool.and_eq_true] at h
  have h1 := fmtE_nl _ x.body (Nat.le_refl _) 30 h.2
  refine NoNl.app ?_ ?_
  · unfold bodyText
    split
    · exact .nil
    · exact .cons (by decide) (encl_nl h1)
  · unfold priceText
    split
    · exact .nil
    · refine NoNl.app ?_ (digits_nl (decDigits_all _ _ (Nat.le_refl _)).1)
      unfold kwPr NoNl
      decide
theorem altsText_nl : ∀ (l : List GA) (i : Nat), (∀ x ∈ l, altOK x = true) → NoNl (altsText i l)
  | [], _, _ => .nil
  | x :: l, i, h => by
    rw [altsText]
    refine (NoNl.app ?_ (altText_nl (h x (by simp)))).app (altsText_nl l (i + 1) fun y hy => h y (by simp [hy]))
    split
    · exact .nil
    · exact .cons (by decide) (.cons (by decide) .nil)
theorem wordM_nl (a : Int) : NoNl (wordM a) := by
  unfold wordM NoNl
  split
  · decide
  · split <;> decide
theorem join_nl : ∀ (l : List (List UInt8)), (∀ x ∈ l, nameOK x = true) → NoNl (Lib.join l [32])
  | [], _ => by simp [Lib.join]; exact .nil
  | [x], h => by
    have := name_nl (h x (by simp))
    simpa [Lib.join, List.intercalate] using this
  | x :: y :: l, h => by
    have e : Lib.join (x :: y :: l) [32] = x ++ 32 :: Lib.join (y :: l) [32] := by simp [Lib.join, List.intercalate, List.intersperse_cons_cons]
    rw [e]
    exact (name_nl (h x (by simp))).app (.cons (by decide) (join_nl (y :: l) fun z hz => h z (by simp [hz])))

theorem line_of {b t : List UInt8} (hb : NoNl b) (e : t = b ++ [59, 10]) : LinesOf 1 t := by
  rw [e]
  exact LinesOf.cons hb .nil
theorem lines_flat {α : Type} (g : α → List UInt8) : ∀ (l : List α), (∀ x ∈ l, LinesOf 1 (g x)) → LinesOf l.length (l.flatMap g)
  | [], _ => .nil
  | x :: l, h => by
    rw [List.flatMap_cons, List.length_cons, Nat.add_comm]
    exact (h x (by simp)).app (lines_flat g l fun y hy => h y (by simp [hy]))

theorem gfText_lines {f : GF} (hv : validM f = true) : LinesOf (1 + f.levels.length + f.rules.length) (gfText f) := by
  have V := validM_parts hv
  unfold gfText
  refine LinesOf.app (LinesOf.app ?_ (lines_flat _ _ fun x hx => ?_)) (lines_flat _ _ fun x hx => ?_)
  · refine line_of (b := [115, 116, 97, 114, 116, 32] ++ f.start) ((?_ : NoNl _).app (name_nl V.start)) rfl
    unfold NoNl
    decide
  · exact line_of (b := wordM x.assoc ++ [32] ++ Lib.join x.tokens [32]) (((wordM_nl _).app (.cons (by decide) .nil)).app (join_nl _ (V.level x hx).2)) rfl
  · obtain ⟨h1, h2⟩ := V.rule x hx
    exact line_of (b := x.name ++ [32, 61] ++ altsText 0 x.alts) (((name_nl h2).app (.cons (by decide) (.cons (by decide) .nil))).app (altsText_nl _ _ (ruleOK_parts h1).2)) rfl
end Go.Av
