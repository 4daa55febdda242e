/- The text of a valid grammar tells the grammar. -/
import Derived.Test.YtpdbcfnmhicnbaaDoorA2
set_option linter.unusedVariables false
set_option linter.unusedSimpArgs false
namespace Go.Av
open Go Go.Proofs

theorem cut_at {c : UInt8} : ∀ {a b s t : List UInt8}, c ∉ a → c ∉ b → a ++ c :: s = b ++ c :: t → a = b ∧ s = t
  | [], [], s, t, _, _, h => by simpa using h
  | [], y :: b, s, t, _, hb, h => by
    simp at h
    exact absurd (h.1 ▸ List.mem_cons_self) hb
  | x :: a, [], s, t, ha, _, h => by
    simp at h
    exact absurd (h.1 ▸ List.mem_cons_self) ha
  | x :: a, y :: b, s, t, ha, hb, h => by
    simp at h
    have := cut_at (a := a) (b := b) (fun m => ha (List.mem_cons_of_mem _ m)) (fun m => hb (List.mem_cons_of_mem _ m)) h.2
    exact ⟨by rw [h.1, this.1], this.2⟩

theorem words_inj : ∀ {l m : List (List UInt8)}, (∀ x ∈ l, (32 : UInt8) ∉ x) → (∀ x ∈ m, (32 : UInt8) ∉ x) → wordsT l = wordsT m → l = m
  | [], [], _, _, _ => rfl
  | [], y :: m, _, _, h => by simp [wordsT] at h
  | x :: l, [], _, _, h => by simp [wordsT] at h
  | [x], [y], hl, hm, h => by
    simp [wordsT] at h
    rw [h]
  | [x], y :: z :: m, hl, hm, h => by
    have := hl x (by simp)
    simp [wordsT] at h
    rw [h] at this
    simp at this
  | x :: z :: l, [y], hl, hm, h => by
    have := hm y (by simp)
    simp [wordsT] at h
    rw [← h] at this
    simp at this
  | x :: z :: l, y :: w :: m, hl, hm, h => by
    have e : x ++ 32 :: (z ++ wordsT l) = y ++ 32 :: (w ++ wordsT m) := by simpa [wordsT] using h
    obtain ⟨e1, e2⟩ := cut_at (hl x (by simp)) (hm y (by simp)) e
    have := words_inj (l := z :: l) (m := w :: m) (fun a ha => hl a (List.mem_cons_of_mem _ ha)) (fun a ha => hm a (List.mem_cons_of_mem _ ha)) (by simpa [wordsT] using e2)
    rw [e1, this]

theorem lines_inj {α β : Type} {f : α → List UInt8} {f' : β → List UInt8} : ∀ {l : List α} {m : List β}, (∀ x ∈ l, (10 : UInt8) ∉ f x) → (∀ x ∈ m, (10 : UInt8) ∉ f' x) → l.flatMap (fun x => f x ++ [10]) = m.flatMap (fun x => f' x ++ [10]) → l.map f = m.map f'
  | [], [], _, _, _ => rfl
  | [], y :: m, _, _, h => by simp at h
  | x :: l, [], _, _, h => by simp at h
  | x :: l, y :: m, hl, hm, h => by
    simp only [List.flatMap_cons, List.append_assoc, List.cons_append, List.nil_append] at h
    obtain ⟨e1, e2⟩ := cut_at (hl x (by simp)) (hm y (by simp)) h
    have := lines_inj (l := l) (m := m) (fun a ha => hl a (List.mem_cons_of_mem _ ha)) (fun a ha => hm a (List.mem_cons_of_mem _ ha)) e2
    simp [e1, this]

theorem name_chars {s : List UInt8} (h : isName s = true) : ∀ c ∈ s, c ≠ 32 ∧ c ≠ 10 := by
  intro c hc
  simp only [isName, Bool.and_eq_true, List.all_eq_true] at h
  have := h.2 c hc
  constructor
  · rintro rfl; revert this; decide
  · rintro rfl; revert this; decide

/-- The words of a price. -/
def priceW (p : Int) : List (List UInt8) := if 0 < p then [[91, 112, 114, 105, 99, 101, 93], Lib.decDigits p.toNat] else []
theorem priceT_eq (p : Int) : priceT p = wordsT (priceW p) := by
  unfold priceT priceW
  split <;> simp [wordsT]
end Go.Av
