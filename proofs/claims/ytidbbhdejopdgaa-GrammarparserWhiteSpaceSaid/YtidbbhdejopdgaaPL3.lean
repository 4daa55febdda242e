/- Part of the proof: PL3. No condition. -/
import Derived.Test.YtidbbhdejopdgaaPL2
set_option linter.unusedVariables false
set_option linter.unusedSimpArgs false
namespace Go.Av
/-! ### Errors lie in the text -/
def AtL (S : Nat → Prop) (l : List Tok) : Prop := ∀ t ∈ l, S t.at_
def Bd {α : Type} (S : Nat → Prop) (n : Nat) (r : PR α) : Prop := (∀ k, r = .error k → S k) ∧ ∀ x l, r = .ok (x, l) → AtL S l ∧ l.length ≤ n

theorem Bd.bind {α β : Type} {S : Nat → Prop} {n m : Nat} {r : PR α} {F : α → List Tok → PR β} (h : Bd S n r) (hF : ∀ x l, AtL S l → l.length ≤ n → Bd S m (F x l)) : Bd S m (bindM r F) := by
  cases r with
  | error k => exact ⟨fun k' hk => h.1 k' (by simpa using hk), fun x l hx => by simp at hx⟩
  | ok p =>
    obtain ⟨x, l⟩ := p
    exact hF x l (h.2 x l rfl).1 (h.2 x l rfl).2
theorem Bd.ok {α : Type} {S : Nat → Prop} {n : Nat} (x : α) {l : List Tok} (h : AtL S l) (hn : l.length ≤ n) : Bd S n (.ok (x, l) : PR α) := ⟨fun k hk => (by cases hk), fun y l' hy => by injection hy with hy; injection hy with _ h2; subst h2; exact ⟨h, hn⟩⟩
theorem Bd.err {α : Type} {S : Nat → Prop} {n k : Nat} (h : S k) : Bd S n (.error k : PR α) := ⟨fun k' hk => by injection hk with hk; rw [← hk]; exact h, fun y l hy => by cases hy⟩
theorem Bd.mono {α : Type} {S : Nat → Prop} {n m : Nat} {r : PR α} (h : Bd S n r) (hm : n ≤ m) : Bd S m r := ⟨h.1, fun x l hx => ⟨(h.2 x l hx).1, Nat.le_trans (h.2 x l hx).2 hm⟩⟩

theorem AtL.tail {S : Nat → Prop} {l : List Tok} (h : AtL S l) : AtL S l.tail := fun t ht => h t (List.mem_of_mem_tail ht)
theorem AtL.peek {S : Nat → Prop} {e : Nat} (hS : S e) {l : List Tok} (h : AtL S l) : S (peekT e l).at_ := by
  cases l with
  | nil => exact hS
  | cons t r => exact h t (by simp)

variable {e : Nat} {S : Nat → Prop} (hS : S e)
include hS
theorem expB_bd (x : List UInt8) {l : List Tok} (h : AtL S l) : Bd S (l.length - 1) (expB e x l) := by
  cases l with
  | nil => exact Bd.err hS
  | cons t r =>
    simp only [expB, expM]
    cases t.text == x
    · exact Bd.err (h t (by simp))
    · exact Bd.ok _ h.tail (by simp)

omit hS in
theorem sufM_bd : ∀ (l : List Tok) (x : GE), AtL S l → AtL S (sufM x l).2
  | [], x, h => h
  | t :: r, x, h => by
    simp only [sufM]
    split
    · exact sufM_bd r _ h.tail
    · split
      · exact sufM_bd r _ h.tail
      · split
        · exact sufM_bd r _ h.tail
        · exact h

omit hS in
theorem namesM_bd : ∀ (l : List Tok), AtL S l → AtL S (namesM e l).2
  | [], h => h
  | t :: r, h => by
    simp only [namesM]
    split
    · exact namesM_bd r h.tail
    · exact h

theorem readM_bd : ∀ (f : Nat) (l : List Tok), AtL S l → (3 * l.length + 3 ≤ f → Bd S l.length (itemsM e f l)) ∧ (3 * l.length + 2 ≤ f → Bd S (l.length - 1) (itemM e f l)) ∧
    (3 * l.length + 1 ≤ f → Bd S (l.length - 1) (primM e f l)) ∧ (3 * l.length + 2 ≤ f → Bd S l.length (altsM e f l))
  | 0, l, h => ⟨fun h => by omega, fun h => by omega, fun h => by omega, fun h => by omega⟩
  | f + 1, l, h => by
    have ih := fun l (h : AtL S l) => readM_bd f l h
    refine ⟨fun hf => ?_, fun hf => ?_, fun hf => ?_, fun hf => ?_⟩
    · rw [itemsM_eq]
      cases l with
      | nil => exact Bd.ok _ h (by simp)
      | cons t r =>
        simp only [List.length_cons] at hf ⊢
        split
        · refine ((ih (t :: r) h).2.1 (by simp; omega)).bind fun x l1 h1 n1 => ?_
          simp at n1
          exact (((ih l1 h1).1 (by omega)).bind fun xs l2 h2 n2 => Bd.ok _ h2 n2).mono (by omega)
        · exact Bd.ok _ h (by simp)
    · rw [itemM_eq]
      exact ((ih l h).2.2.1 (by omega)).bind fun x l1 h1 n1 => Bd.ok _ (sufM_bd l1 x h1) (Nat.le_trans (sufM_len l1 x) n1)
    · rw [primM_eq]
      split
      · exact Bd.ok _ h.tail (by simp)
      · cases l with
        | nil => exact Bd.err hS
        | cons t r =>
          simp only [List.length_cons] at hf ⊢
          refine (expB_bd hS _ h).bind fun _ l0 h0 n0 => ?_
          simp at n0
          refine ((ih l0 h0).1 (by omega)).bind fun xs l1 h1 n1 => ?_
          refine ((ih l1 h1).2.2.2 (by omega)).bind fun ys l2 h2 n2 => ?_
          exact (expB_bd hS _ h2).bind fun _ l3 h3 n3 => Bd.ok _ h3 (by omega)
    · rw [altsM_eq]
      cases l with
      | nil => exact Bd.ok _ h (by simp)
      | cons t r =>
        simp only [List.length_cons] at hf ⊢
        split
        · refine ((ih r h.tail).1 (by omega)).bind fun x l1 h1 n1 => ?_
          exact (((ih l1 h1).2.2.2 (by omega)).bind fun xs l2 h2 n2 => Bd.ok _ h2 (by omega))
        · exact Bd.ok _ h (by simp)

theorem altM_bd {f : Nat} {l : List Tok} (h : AtL S l) (hf : 3 * l.length + 3 ≤ f) : Bd S l.length (altM e f l) := by
  rw [altM_eq]
  refine ((readM_bd hS f l h).1 hf).bind fun xs l1 h1 n1 => ?_
  split
  · split
    · exact Bd.err (AtL.peek hS h1.tail)
    · exact Bd.ok _ h1.tail.tail (by simp; omega)
  · exact Bd.ok _ h1 n1

theorem moreM_bd : ∀ (f : Nat) (l : List Tok), AtL S l → 3 * l.length + 1 ≤ f → Bd S l.length (moreM e f l)
  | 0, l, h, hf => by omega
  | f + 1, l, h, hf => by
    rw [moreM_eq]
    cases l with
    | nil => exact Bd.ok _ h (by simp)
    | cons t r =>
      simp only [List.length_cons] at hf ⊢
      split
      · refine (altM_bd hS (f := f) (l := r) h.tail (by omega)).bind fun x l1 h1 n1 => ?_
        exact (moreM_bd f l1 h1 (by omega)).bind fun xs l2 h2 n2 => Bd.ok _ h2 (by omega)
      · exact Bd.ok _ h (by simp)

theorem ruleM_bd {f : Nat} {l : List Tok} (h : AtL S l) (hf : 3 * l.length + 3 ≤ f) : Bd S (l.length - 1) (ruleM e f l) := by
  rw [ruleM_eq]
  cases l with
  | nil => exact Bd.err hS
  | cons t r =>
    simp only [List.length_cons] at hf ⊢
    split
    · refine (expB_bd hS _ h.tail).bind fun _ l0 h0 n0 => ?_
      simp at n0
      refine (altM_bd hS h0 (by omega)).bind fun a l1 h1 n1 => ?_
      refine (moreM_bd hS f l1 h1 (by omega)).bind fun bs l2 h2 n2 => ?_
      exact (expB_bd hS _ h2).bind fun _ l3 h3 n3 => Bd.ok _ h3 (by omega)
    · exact Bd.err (AtL.peek hS h)

theorem levelM_bd (a : Int) {t : Tok} {l : List Tok} (h : AtL S (t :: l)) : Bd S l.length (levelM e a (t :: l)) := by
  rw [levelM_cons]
  split
  · have hl := namesM_len e l.tail
    refine (expB_bd hS _ (namesM_bd _ h.tail.tail)).bind fun _ r h1 n1 => Bd.ok _ h1 ?_
    simp at hl
    simp only [List.tail_cons] at n1
    omega
  · exact Bd.err (AtL.peek hS h.tail)

theorem levelsM_bd : ∀ (f : Nat) (l : List Tok), AtL S l → l.length < f → Bd S l.length (levelsM e f l)
  | 0, l, h, hf => by omega
  | f + 1, [], h, hf => by rw [levelsM_eq]; exact Bd.ok _ h (by simp)
  | f + 1, t :: l, h, hf => by
    simp only [List.length_cons] at hf ⊢
    rw [levelsM_eq]
    split
    · exact Bd.ok _ h (by simp)
    · exact (levelM_bd hS _ h).bind fun x l1 h1 n1 => (levelsM_bd f l1 h1 (by omega)).bind fun xs l2 h2 n2 => Bd.ok _ h2 (by omega)

theorem rulesM_bd (F : Nat) : ∀ (g : Nat) (l : List Tok), AtL S l → l.length < g → 3 * l.length + 3 ≤ F → Bd S l.length (rulesM e F g l)
  | 0, l, h, hf, hF => by omega
  | g + 1, [], h, hf, hF => by rw [rulesM]; exact Bd.ok _ h (by simp)
  | g + 1, t :: l, h, hf, hF => by
    simp only [List.length_cons] at hf hF ⊢
    rw [rulesM_eq]
    exact (ruleM_bd hS (l := t :: l) h (by simp; omega)).bind fun x l1 h1 n1 => (rulesM_bd F g l1 h1 (by simp at n1; omega) (by simp at n1; omega)).bind fun xs l2 h2 n2 => Bd.ok _ h2 (by simp at n1; omega)

theorem progP_bd (F : Nat) (l : List Tok) (h : AtL S l) (hF : 3 * l.length + 3 ≤ F) : Bd S l.length (progP e F l) := by
  unfold progP
  refine (expB_bd hS _ h).bind fun _ l1 h1 n1 => ?_
  split
  · refine (expB_bd hS _ h1.tail).bind fun _ l2 h2 n2 => ?_
    simp at n2
    refine (levelsM_bd hS F l2 h2 (by omega)).bind fun lv l3 h3 n3 => ?_
    exact (rulesM_bd hS F F l3 h3 (by omega) (by omega)).bind fun rs l4 h4 n4 => Bd.ok _ h4 (by omega)
  · exact Bd.err (AtL.peek hS h1)

theorem progM_bd {F : Nat} {l : List Tok} {k : Nat} (h : AtL S l) (hF : 3 * l.length + 3 ≤ F) (hp : progM e F l = .error k) : S k := by
  rw [progM_eq] at hp
  cases hq : progP e F l with
  | error k' =>
    rw [hq] at hp
    simp only [Except.error.injEq] at hp
    subst hp
    exact (progP_bd hS F l h hF).1 _ hq
  | ok p => rw [hq] at hp; cases hp
end Go.Av
